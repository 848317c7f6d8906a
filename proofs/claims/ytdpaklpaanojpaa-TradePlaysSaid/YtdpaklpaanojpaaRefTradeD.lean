/- The reference's desk: ids, Matched, Open. -/
import Derived.Test.YtdpaklpaanojpaaRefTradeC
import Derived.Deep.CutBlock
namespace Go.Proofs.Ytdpaklpaanojpaa
open Go.RowKit

theorem ints_one (l : List Int) : ∀ u ∈ l.map (Value.int .i64), u.oneCell' = true := by
  intro u hu
  obtain ⟨x, _, rfl⟩ := List.mem_map.1 hu
  rfl
theorem cells_none {P : Nat → Prop} (w : World) (p : Option Addr) (c : Nat) : IsCells P w (.slice p 0 c) 0 [] := ⟨p, c, rfl, fun i hi => absurd hi (by simp)⟩
theorem IsRow.dropCells {S : Nat → Prop} {w : World} {b off n c : Nat} {xs : List Value} (h : IsRow S w (.slice (some ⟨b, off, none⟩) n c) xs) (k m c' : Nat) : IsCells S w (.slice (some ⟨b, off + k, none⟩) m c') m (xs.drop k) := by
  obtain ⟨p', c0, hv, hc⟩ := h
  simp only [Value.slice.injEq] at hv
  obtain ⟨rfl, -, rfl⟩ := hv
  refine ⟨_, c', rfl, fun i hi => ?_⟩
  simp only [List.length_drop] at hi
  obtain ⟨b', off', hp, hS, hb, hx⟩ := hc (k + i) (by omega)
  simp only [Option.some.injEq, Addr.mk.injEq, and_true] at hp
  obtain ⟨rfl, rfl⟩ := hp
  exact ⟨b, off + k, rfl, hS, hb, by rw [show off + k + i = off + (k + i) by omega, hx]; simp⟩
theorem IsRow.takeCells {S : Nat → Prop} {w : World} {p : Option Addr} {n c : Nat} {xs : List Value} (h : IsRow S w (.slice p n c) xs) (k c' : Nat) : IsCells S w (.slice p k c') k (xs.take k) := by
  obtain ⟨p', c0, hv, hc⟩ := h
  simp only [Value.slice.injEq] at hv
  obtain ⟨rfl, -, rfl⟩ := hv
  refine ⟨_, c', rfl, fun i hi => ?_⟩
  simp only [List.length_take] at hi
  obtain ⟨b', off', hp, hS, hb, hx⟩ := hc i (by omega)
  exact ⟨b', off', hp, hS, hb, by rw [hx]; simp [List.getD_eq_getElem?_getD, List.getElem?_take, show i < k by omega]⟩
theorem vec_form1 {S : Nat → Prop} {w : World} {E : TypeId} {sz n : Nat} {v : Value} {xs : List Value} (h : IsVec S w E sz v n xs) : (v = .slice none 0 0 ∧ n = 0) ∨ ∃ g c, v = .slice (some ⟨g, 0, none⟩) n c ∧ n ≤ c := by
  rcases h.1.2 with ⟨rfl, rfl⟩ | ⟨g, cap, cur, rfl, _, _, hn, _⟩
  · exact .inl ⟨rfl, rfl⟩
  · exact .inr ⟨g, cap, rfl, hn⟩
theorem ids_fin {ids out : List Int} {y : Int} {q m z : Nat} {w : World} {v : Value} {P : Nat → Prop} (hins : out = ids.take q ++ [y] ++ ids.drop q) (hn : ids.length = m) (hv : IsVec (fun k => P k ∧ k < w.heap.size) w 3 1 v (m + 1) ((ids.map (Value.int .i64)).take q ++ [Value.int IntKind.i64 y] ++ (ids.map (Value.int .i64)).drop q)) (hP : ∀ k, P k → z ≤ k) :
    IsVec (fun j => z ≤ j ∧ j < w.heap.size) w 3 1 v out.length (out.map (Value.int .i64)) := by
  have hl : out.length = m + 1 := by
    rw [hins]
    simp
    omega
  rw [hl, hins]
  have h := hv.mono (T := fun j => z ≤ j ∧ j < w.heap.size) (fun j _ hj => ⟨hP j hj.1, hj.2⟩)
  simpa [List.map_take, List.map_drop] using h
set_option maxRecDepth 100000 in
set_option maxHeartbeats 8000000 in
theorem refIds (x : Nat) (S : Nat → Prop) (p c a : Int) (l : List Said) (w : World) (h : IsRefT w x S p c a l) (hl : l.length ≤ 400) :
    Calls Try.prog 29 #[.pointer (some ⟨x, 0, none⟩)] w fun e w' => ∃ v, e = .returned v ∧ IsRow (fun k => w.heap.size ≤ k) w' v ((idsOf l).map (Value.int .i64)) ∧ Mod nil w w' := by
  obtain ⟨S1, S2, v1, v2, h1, h2, h3, h4, h5⟩ := h.ex
  obtain ⟨n, hn⟩ : ∃ n, l.length = n := ⟨_, rfl⟩
  rw [hn] at hl h2 h3
  have HLN := Lib.hid hn
  obtain ⟨pl, cl, rfl⟩ := h3.form
  have HO := Lib.hid h1
  have hlc0 : IsCells S2 w (.slice pl n cl) (l.map (·.t)).length (trades (l.map (·.t))) := by rw [List.length_map, hn, ← tvals_trades]; exact h3.cells
  have HC := Lib.hid hlc0
  obtain ⟨i0, hi, hz0, hz1, hz2⟩ := info_parts info_int3
  have HI := Lib.hid (And.intro hi (And.intro hz0 (And.intro hz1 hz2)))
  clear hn h h1 h2 h3 h4 h5 hlc0 hi hz0 hz1 hz2
  go_enter Try.func29, Try.ntmps29
  go_wp2_with fail
  go_loopw [3, 4] (fun u v wr => ∃ kk : Nat, kk ≤ n ∧ v = .int .i64 kk ∧ Hid (idsOf (l.take kk) = [] → u = .slice none 0 0) ∧ IsVec (fun j => w.heap.size ≤ j ∧ j < wr.heap.size) wr 3 1 u (idsOf (l.take kk)).length ((idsOf (l.take kk)).map (Value.int .i64)) ∧ Mod nil w wr) (fun _ v _ => n - (intOf v).toNat)
  case atStart =>
    have h0 : idsOf (l.take 0) = [] := List.eq_nil_of_length_eq_zero (by have := idsOf_length (l.take 0); simpa using this)
    exact ⟨0, by omega, rfl, Lib.hid (fun _ => rfl), by rw [h0]; exact IsVec.nil _ _ _ _, Mod.refl _ _⟩
  case round =>
    obtain ⟨kk, hk, rfl, HNIL, hvec, hmod⟩ := hrel
    have HMOD := Lib.hid hmod
    have HVEC := Lib.hid hvec
    have c4 : wr.cell? ⟨x, 4, none⟩ = some (.slice pl n cl) := cell_of (hmod.keep HO.out) 4
    by_cases hlt : kk < n
    · have hkl : kk < l.length := by have := HLN.out; omega
      obtain ⟨gl, ol, ⟨c', hv⟩, _, hgl, e0, _⟩ := trade_cells (HC.out.modNil hmod) kk (by simpa using hkl)
      simp only [Value.slice.injEq] at hv
      obtain ⟨rfl, -, rfl⟩ := hv
      obtain ⟨y, hy⟩ : ∃ y, l[kk].t.id = y := ⟨_, rfl⟩
      rw [List.getElem_map, hy] at e0
      have HY := Lib.hid hy
      obtain ⟨ids, hids⟩ : ∃ ids, idsOf (l.take kk) = ids := ⟨_, rfl⟩
      have hidl : ids.length ≤ 400 := by have h1 := idsOf_length (l.take kk); rw [hids] at h1; simp at h1; omega
      rw [hids] at HVEC HNIL
      have HIDS := Lib.hid hids
      obtain ⟨m, hm⟩ : ∃ m, ids.length = m := ⟨_, rfl⟩
      rw [hm] at HVEC hidl
      have HN := Lib.hid hm
      clear hy hids hm hmod hvec
      obtain ⟨hi, hz0, hz1, hz2⟩ := HI.out
      rcases vec_form1 HVEC.out with ⟨hu, hm0⟩ | ⟨g0, cu, hu, hmc⟩
      · subst hu
        subst hm0
        have HID0 := Lib.hid (List.eq_nil_of_length_eq_zero HN.out)
        have hrow := HVEC.out.row
        have HROW := Lib.hid hrow
        clear hrow
        have hnin : y ∉ ids := by rw [HID0.out]; simp
        have HIN := Lib.hid hnin
        go_wp2_with fail
        refine (refHas _ _ ids y _ HROW.out (by have := HN.out; omega)).mono ?_
        rw [decide_eq_false hnin]
        clear hnin
        rintro e w5 ⟨rfl, rfl⟩
        have HINS := Lib.hid (show idsOf (l.take (kk + 1)) = ids.take 0 ++ [y] ++ ids.drop 0 from by
          have h := ids_ins l kk hkl ids HIDS.out (by rw [HY.out]; exact HIN.out) 0 (Nat.zero_le _) (fun j hj hq => by have := HN.out; omega) (fun j hj hq => by omega)
          rw [h, HY.out])
        go_wp2_with fail
        go_loopw [6] (fun v wx => v = .int .i64 0 ∧ wx = wr) (fun v _ => 0)
        case atStart => exact ⟨rfl, rfl⟩
        case round =>
          obtain ⟨rfl, hwx⟩ := hrel
          subst hwx
          have HT := Lib.hid (show IsCells (fun _ => False) wr (.slice none 0 0) 0 ((ids.map (Value.int .i64)).take 0) from cells_none _ _ _)
          have HD := Lib.hid (show IsCells (fun _ => False) wr (.slice none 0 0) 0 ((ids.map (Value.int .i64)).drop 0) from by rw [HID0.out]; exact cells_none _ _ _)
          have HLK := Lib.hid (show ((ids.map (Value.int .i64)).take 0).length = 0 from by have := HN.out; simp only [List.length_take, List.length_map]; omega)
          go_upto_region 10 with (fail)
          refine region_till (fun _ => True) 12 (by kernel_rfl) ?_
          refine till_take (i := 1) (v := ?_) rfl (by kernel_rfl) (by kernel_rfl) (by kernel_rfl) (by kernel_rfl) (by kernel_rfl) (by kernel_rfl) (fun _ _ _ h => h) (Or.inl ⟨by kernel_rfl, ?_⟩) (trivial) ?_
          rotate_left
          · intro w hSw; (try dsimp only at hSw); (first | (go_simp; done) | (go_simp; with_reducible rfl))
          (try simp only [Act.put]); (try simp only [List.setIfInBounds_toArray])
          refine till_take (i := 2) (v := ?_) rfl (by kernel_rfl) (by kernel_rfl) (by kernel_rfl) (by kernel_rfl) (by kernel_rfl) (by kernel_rfl) (fun _ _ _ h => h) (Or.inl ⟨by kernel_rfl, ?_⟩) (trivial) ?_
          rotate_left
          · intro w hSw; (try dsimp only at hSw); (first | (go_simp; done) | (go_simp; with_reducible rfl))
          (try simp only [Act.put]); (try simp only [List.setIfInBounds_toArray])
          refine till_take (i := 3) (v := ?_) rfl (by kernel_rfl) (by kernel_rfl) (by kernel_rfl) (by kernel_rfl) (by kernel_rfl) (by kernel_rfl) (fun _ _ _ h => h) (Or.inl ⟨by kernel_rfl, ?_⟩) (trivial) ?_
          rotate_left
          · intro w hSw; (try dsimp only at hSw); (first | (go_simp; done) | (go_simp; with_reducible rfl))
          (try simp only [Act.put]); (try simp only [List.setIfInBounds_toArray])
          refine till_take (i := 5) (v := ?_) rfl (by kernel_rfl) (by kernel_rfl) (by kernel_rfl) (by kernel_rfl) (by kernel_rfl) (by kernel_rfl) (fun _ _ _ h => h) (Or.inl ⟨by kernel_rfl, ?_⟩) (trivial) ?_
          rotate_left
          · intro w hSw; (try dsimp only at hSw); (first | (go_simp; done) | (go_simp; with_reducible rfl))
          (try simp only [Act.put]); (try simp only [List.setIfInBounds_toArray])
          refine till_take (i := 8) (v := ?_) rfl (by kernel_rfl) (by kernel_rfl) (by kernel_rfl) (by kernel_rfl) (by kernel_rfl) (by kernel_rfl) (fun _ _ _ h => h) (Or.inl ⟨by kernel_rfl, ?_⟩) (trivial) ?_
          rotate_left
          · intro w hSw; (try dsimp only at hSw); (first | (go_simp; done) | (go_simp; with_reducible rfl))
          (try simp only [Act.put]); (try simp only [List.setIfInBounds_toArray])
          refine till_take (i := 9) (v := ?_) rfl (by kernel_rfl) (by kernel_rfl) (by kernel_rfl) (by kernel_rfl) (by kernel_rfl) (by kernel_rfl) (fun _ _ _ h => h) (Or.inl ⟨by kernel_rfl, ?_⟩) (trivial) ?_
          rotate_left
          · intro w hSw; (try dsimp only at hSw); (first | (go_simp; done) | (go_simp; with_reducible rfl))
          (try simp only [Act.put]); (try simp only [List.setIfInBounds_toArray])
          refine till_take (i := 10) (v := ?_) rfl (by kernel_rfl) (by kernel_rfl) (by kernel_rfl) (by kernel_rfl) (by kernel_rfl) (by kernel_rfl) (fun _ _ _ h => h) (Or.inl ⟨by kernel_rfl, ?_⟩) (trivial) ?_
          rotate_left
          · intro w hSw; (try dsimp only at hSw); (first | (go_simp; done) | (go_simp; with_reducible rfl))
          (try simp only [Act.put]); (try simp only [List.setIfInBounds_toArray])
          refine till_ready (rs := [0, 6]) (by kernel_rfl) (by simp) ?_
          refine till_cons (i := 0) rfl (fun K hK => ?_) ?_
          · (try dsimp (config := { proj := false }) only [List.getElem_toArray, List.getElem_cons_succ, List.getElem_cons_zero])
            go_simp
            refine hK.out _ _ (fun _ => trivial) ?_
            clear hK K
            (try simp only [Act.put, List.setIfInBounds_toArray, List.set_cons_zero, List.set_cons_succ])
            have hv := (vec_empty_at wr 3 1 _ rfl).modNil (Mod.refl nil _).drew
            have hM := ((Mod.refl nil wr).alloc (.cells #[] 3)).drew
            have hG : wr.heap.size ≤ wr.heap.size := Nat.le_refl _
            refine till_ready (rs := [4, 6]) (by kernel_rfl) (by simp) ?_
            refine till_cons (i := 4) rfl (fun K hK => ?_) ?_
            · (try dsimp (config := { proj := false }) only [List.getElem_toArray, List.getElem_cons_succ, List.getElem_cons_zero])
              refine step_append_vec rfl _ _ _ rfl 3 i0 (.int .i64 0) 1 8 Try.underlying35 hi hz0 hz1 hz2 rfl (by omega) _ 0 [] rfl hv _ 0 _ rfl (HT.out.modNil hM) (by simp [HLK.out]) (fun u hu => ints_one ids u (List.mem_of_mem_take hu)) (by unfold maxLen; omega) (by omega) ?_
              intro v6 w6 hv6 hm6
              rw [Nat.zero_add, List.nil_append] at hv6
              obtain ⟨p6, c6, rfl⟩ := hv6.form
              have hM6 : Mod nil wr w6 := hM.new hm6 (fun j hj => by rw [hj]; exact hG)
              replace hv6 := hv6.mono (T := fun j => wr.heap.size ≤ j) (fun j _ hj => by
                rcases hj with hj | hj
                · rw [hj]; exact hG
                · exact Nat.le_trans hM.size hj)
              refine hK.out _ _ (fun _ => trivial) ?_
              clear hK K
              (try simp only [Act.put, List.setIfInBounds_toArray, List.set_cons_zero, List.set_cons_succ])
              refine till_ready (rs := [6]) (by kernel_rfl) (by simp) ?_
              refine till_cons (i := 6) rfl (fun K hK => ?_) till_nil
              (try dsimp (config := { proj := false }) only [List.getElem_toArray, List.getElem_cons_succ, List.getElem_cons_zero])
              go_simp
              refine hK.out _ _ (fun _ => trivial) ?_
              clear hK K
              (try simp only [Act.put, List.setIfInBounds_toArray, List.set_cons_zero, List.set_cons_succ])
              have hB := cells_one_at w6 3 (.int .i64 y) _ rfl
              replace hv6 := hv6.modNil ((Mod.refl nil w6).alloc (.cells #[.int .i64 y] 3))
              replace hM6 := hM6.alloc (.cells #[.int .i64 y] 3)
              refine till_ready (rs := [7]) (by kernel_rfl) (by simp) ?_
              refine till_cons (i := 7) rfl (fun K hK => ?_) till_nil
              (try dsimp (config := { proj := false }) only [List.getElem_toArray, List.getElem_cons_succ, List.getElem_cons_zero])
              refine step_append_vec (S := fun j => wr.heap.size ≤ j) rfl _ _ _ rfl 3 i0 (.int .i64 0) 1 8 Try.underlying35 hi hz0 hz1 hz2 rfl (by omega) _ 0 ((ids.map (Value.int .i64)).take 0) rfl hv6 _ 1 [Value.int IntKind.i64 y] rfl hB rfl (by simp [Value.oneCell']) (by unfold maxLen; omega) (by omega) ?_
              intro v7 w7 hv7 hm7
              obtain ⟨p7, c7, rfl⟩ := hv7.form
              have hM7 : Mod nil wr w7 := hM6.new hm7 (fun j hj => hj)
              replace hv7 := hv7.mono (T := fun j => wr.heap.size ≤ j) (fun j _ hj => by
                rcases hj with hj | hj
                · exact hj
                · exact Nat.le_trans hM6.size hj)
              refine hK.out _ _ (fun _ => trivial) ?_
              clear hK K
              (try simp only [Act.put, List.setIfInBounds_toArray, List.set_cons_zero, List.set_cons_succ])
              refine till_ready (rs := [11]) (by kernel_rfl) (by simp) ?_
              refine till_cons (i := 11) rfl (fun K hK => ?_) till_nil
              (try dsimp (config := { proj := false }) only [List.getElem_toArray, List.getElem_cons_succ, List.getElem_cons_zero])
              refine step_append_vec (S := fun j => wr.heap.size ≤ j) rfl _ _ _ rfl 3 i0 (.int .i64 0) 1 8 Try.underlying35 hi hz0 hz1 hz2 rfl (by omega) _ (0 + 1) ((ids.map (Value.int .i64)).take 0 ++ [Value.int IntKind.i64 y]) rfl hv7 _ (0) ((ids.map (Value.int .i64)).drop (0)) rfl (HD.out.modNil hM7) (by have := HN.out; simp only [List.length_drop, List.length_map]; omega) (fun u hu => ints_one ids u (List.mem_of_mem_drop hu)) (by unfold maxLen; omega) (by omega) ?_
              intro v8 w8 hv8 hm8
              rw [show 0 + 1 + (0) = 0 + 1 by omega] at hv8
              obtain ⟨p8, c8, rfl⟩ := hv8.form
              have hM8 : Mod nil wr w8 := hM7.new hm8 (fun j hj => hj)
              replace hv8 := hv8.mono (T := fun j => wr.heap.size ≤ j) (fun j _ hj => by
                rcases hj with hj | hj
                · exact hj
                · exact Nat.le_trans hM7.size hj)
              refine hK.out _ _ (fun _ => trivial) ?_
              clear hK K
              (try simp only [Act.put, List.setIfInBounds_toArray, List.set_cons_zero, List.set_cons_succ])
              refine till_ready (rs := [12]) (by kernel_rfl) (by simp) ?_
              refine till_cons (i := 12) rfl (fun K hK => ?_) till_nil
              (try dsimp (config := { proj := false }) only [List.getElem_toArray, List.getElem_cons_succ, List.getElem_cons_zero])
              go_simp
              refine hK.out _ _ (fun h => (by simp at h)) ?_
              clear hK K
              (try simp only [Act.put, List.setIfInBounds_toArray, List.set_cons_zero, List.set_cons_succ])
              refine till_done (by kernel_rfl) ?_ _
              go_wp2_with fail
              refine ⟨⟨kk + 1, by omega, by go_num, ?_, ?_, HMOD.out.thenNil hM8⟩, by simp [intOf]; omega⟩
              · exact Lib.hid (fun h => by have := HINS.out; rw [this] at h; simp at h)
              · exact ids_fin HINS.out HN.out hv8.trim (by have := HMOD.out.size; omega)
            refine till_cons (i := 6) rfl (fun K hK => ?_) till_nil
            (try dsimp (config := { proj := false }) only [List.getElem_toArray, List.getElem_cons_succ, List.getElem_cons_zero])
            go_simp
            refine hK.out _ _ (fun _ => trivial) ?_
            clear hK K
            (try simp only [Act.put, List.setIfInBounds_toArray, List.set_cons_zero, List.set_cons_succ])
            have hB := (cells_one_at (wr.alloc (.cells #[] 3)) 3 (.int .i64 y) (wr.heap.size + 1) (by simp)).modNil (Mod.refl nil _).drew
            replace hv := ((vec_empty_at wr 3 1 _ rfl).modNil ((Mod.refl nil _).alloc (.cells #[.int .i64 y] 3))).modNil (Mod.refl nil _).drew
            replace hM := (((Mod.refl nil wr).alloc (.cells #[] 3)).alloc (.cells #[.int .i64 y] 3)).drew
            refine till_ready (rs := [4]) (by kernel_rfl) (by simp) ?_
            refine till_cons (i := 4) rfl (fun K hK => ?_) till_nil
            (try dsimp (config := { proj := false }) only [List.getElem_toArray, List.getElem_cons_succ, List.getElem_cons_zero])
            refine step_append_vec rfl _ _ _ rfl 3 i0 (.int .i64 0) 1 8 Try.underlying35 hi hz0 hz1 hz2 rfl (by omega) _ 0 [] rfl hv _ 0 _ rfl (HT.out.modNil hM) (by simp [HLK.out]) (fun u hu => ints_one ids u (List.mem_of_mem_take hu)) (by unfold maxLen; omega) (by omega) ?_
            intro v6 w6 hv6 hm6
            rw [Nat.zero_add, List.nil_append] at hv6
            obtain ⟨p6, c6, rfl⟩ := hv6.form
            have hM6 : Mod nil wr w6 := hM.new hm6 (fun j hj => by rw [hj]; exact hG)
            replace hv6 := hv6.mono (T := fun j => wr.heap.size ≤ j) (fun j _ hj => by
              rcases hj with hj | hj
              · rw [hj]; exact hG
              · exact Nat.le_trans hM.size hj)
            replace hB := hB.mod hm6 (fun j _ hj e => by omega)
            refine hK.out _ _ (fun _ => trivial) ?_
            clear hK K
            (try simp only [Act.put, List.setIfInBounds_toArray, List.set_cons_zero, List.set_cons_succ])
            refine till_ready (rs := [7]) (by kernel_rfl) (by simp) ?_
            refine till_cons (i := 7) rfl (fun K hK => ?_) till_nil
            (try dsimp (config := { proj := false }) only [List.getElem_toArray, List.getElem_cons_succ, List.getElem_cons_zero])
            refine step_append_vec (S := fun j => wr.heap.size ≤ j) rfl _ _ _ rfl 3 i0 (.int .i64 0) 1 8 Try.underlying35 hi hz0 hz1 hz2 rfl (by omega) _ 0 ((ids.map (Value.int .i64)).take 0) rfl hv6 _ 1 [Value.int IntKind.i64 y] rfl hB rfl (by simp [Value.oneCell']) (by unfold maxLen; omega) (by omega) ?_
            intro v7 w7 hv7 hm7
            obtain ⟨p7, c7, rfl⟩ := hv7.form
            have hM7 : Mod nil wr w7 := hM6.new hm7 (fun j hj => hj)
            replace hv7 := hv7.mono (T := fun j => wr.heap.size ≤ j) (fun j _ hj => by
              rcases hj with hj | hj
              · exact hj
              · exact Nat.le_trans hM6.size hj)
            refine hK.out _ _ (fun _ => trivial) ?_
            clear hK K
            (try simp only [Act.put, List.setIfInBounds_toArray, List.set_cons_zero, List.set_cons_succ])
            refine till_ready (rs := [11]) (by kernel_rfl) (by simp) ?_
            refine till_cons (i := 11) rfl (fun K hK => ?_) till_nil
            (try dsimp (config := { proj := false }) only [List.getElem_toArray, List.getElem_cons_succ, List.getElem_cons_zero])
            refine step_append_vec (S := fun j => wr.heap.size ≤ j) rfl _ _ _ rfl 3 i0 (.int .i64 0) 1 8 Try.underlying35 hi hz0 hz1 hz2 rfl (by omega) _ (0 + 1) ((ids.map (Value.int .i64)).take 0 ++ [Value.int IntKind.i64 y]) rfl hv7 _ (0) ((ids.map (Value.int .i64)).drop (0)) rfl (HD.out.modNil hM7) (by have := HN.out; simp only [List.length_drop, List.length_map]; omega) (fun u hu => ints_one ids u (List.mem_of_mem_drop hu)) (by unfold maxLen; omega) (by omega) ?_
            intro v8 w8 hv8 hm8
            rw [show 0 + 1 + (0) = 0 + 1 by omega] at hv8
            obtain ⟨p8, c8, rfl⟩ := hv8.form
            have hM8 : Mod nil wr w8 := hM7.new hm8 (fun j hj => hj)
            replace hv8 := hv8.mono (T := fun j => wr.heap.size ≤ j) (fun j _ hj => by
              rcases hj with hj | hj
              · exact hj
              · exact Nat.le_trans hM7.size hj)
            refine hK.out _ _ (fun _ => trivial) ?_
            clear hK K
            (try simp only [Act.put, List.setIfInBounds_toArray, List.set_cons_zero, List.set_cons_succ])
            refine till_ready (rs := [12]) (by kernel_rfl) (by simp) ?_
            refine till_cons (i := 12) rfl (fun K hK => ?_) till_nil
            (try dsimp (config := { proj := false }) only [List.getElem_toArray, List.getElem_cons_succ, List.getElem_cons_zero])
            go_simp
            refine hK.out _ _ (fun h => (by simp at h)) ?_
            clear hK K
            (try simp only [Act.put, List.setIfInBounds_toArray, List.set_cons_zero, List.set_cons_succ])
            refine till_done (by kernel_rfl) ?_ _
            go_wp2_with fail
            refine ⟨⟨kk + 1, by omega, by go_num, ?_, ?_, HMOD.out.thenNil hM8⟩, by simp [intOf]; omega⟩
            · exact Lib.hid (fun h => by have := HINS.out; rw [this] at h; simp at h)
            · exact ids_fin HINS.out HN.out hv8.trim (by have := HMOD.out.size; omega)
          refine till_cons (i := 6) rfl (fun K hK => ?_) till_nil
          (try dsimp (config := { proj := false }) only [List.getElem_toArray, List.getElem_cons_succ, List.getElem_cons_zero])
          go_simp
          refine hK.out _ _ (fun _ => trivial) ?_
          clear hK K
          (try simp only [Act.put, List.setIfInBounds_toArray, List.set_cons_zero, List.set_cons_succ])
          refine till_ready (rs := [0]) (by kernel_rfl) (by simp) ?_
          refine till_cons (i := 0) rfl (fun K hK => ?_) till_nil
          (try dsimp (config := { proj := false }) only [List.getElem_toArray, List.getElem_cons_succ, List.getElem_cons_zero])
          go_simp
          refine hK.out _ _ (fun _ => trivial) ?_
          clear hK K
          (try simp only [Act.put, List.setIfInBounds_toArray, List.set_cons_zero, List.set_cons_succ])
          have hv := (vec_empty_at (wr.alloc (.cells #[.int .i64 y] 3)) 3 1 (wr.heap.size + 1) (by simp)).modNil (Mod.refl nil _).drew
          have hB := ((cells_one_at wr 3 (.int .i64 y) _ rfl).modNil ((Mod.refl nil _).alloc (.cells #[] 3))).modNil (Mod.refl nil _).drew
          have hM := (((Mod.refl nil wr).alloc (.cells #[.int .i64 y] 3)).alloc (.cells #[] 3)).drew
          have hG : wr.heap.size ≤ wr.heap.size + 1 := Nat.le_succ _
          refine till_ready (rs := [4]) (by kernel_rfl) (by simp) ?_
          refine till_cons (i := 4) rfl (fun K hK => ?_) till_nil
          (try dsimp (config := { proj := false }) only [List.getElem_toArray, List.getElem_cons_succ, List.getElem_cons_zero])
          refine step_append_vec rfl _ _ _ rfl 3 i0 (.int .i64 0) 1 8 Try.underlying35 hi hz0 hz1 hz2 rfl (by omega) _ 0 [] rfl hv _ 0 _ rfl (HT.out.modNil hM) (by simp [HLK.out]) (fun u hu => ints_one ids u (List.mem_of_mem_take hu)) (by unfold maxLen; omega) (by omega) ?_
          intro v6 w6 hv6 hm6
          rw [Nat.zero_add, List.nil_append] at hv6
          obtain ⟨p6, c6, rfl⟩ := hv6.form
          have hM6 : Mod nil wr w6 := hM.new hm6 (fun j hj => by rw [hj]; exact hG)
          replace hv6 := hv6.mono (T := fun j => wr.heap.size ≤ j) (fun j _ hj => by
            rcases hj with hj | hj
            · rw [hj]; exact hG
            · exact Nat.le_trans hM.size hj)
          replace hB := hB.mod hm6 (fun j _ hj e => by omega)
          refine hK.out _ _ (fun _ => trivial) ?_
          clear hK K
          (try simp only [Act.put, List.setIfInBounds_toArray, List.set_cons_zero, List.set_cons_succ])
          refine till_ready (rs := [7]) (by kernel_rfl) (by simp) ?_
          refine till_cons (i := 7) rfl (fun K hK => ?_) till_nil
          (try dsimp (config := { proj := false }) only [List.getElem_toArray, List.getElem_cons_succ, List.getElem_cons_zero])
          refine step_append_vec (S := fun j => wr.heap.size ≤ j) rfl _ _ _ rfl 3 i0 (.int .i64 0) 1 8 Try.underlying35 hi hz0 hz1 hz2 rfl (by omega) _ 0 ((ids.map (Value.int .i64)).take 0) rfl hv6 _ 1 [Value.int IntKind.i64 y] rfl hB rfl (by simp [Value.oneCell']) (by unfold maxLen; omega) (by omega) ?_
          intro v7 w7 hv7 hm7
          obtain ⟨p7, c7, rfl⟩ := hv7.form
          have hM7 : Mod nil wr w7 := hM6.new hm7 (fun j hj => hj)
          replace hv7 := hv7.mono (T := fun j => wr.heap.size ≤ j) (fun j _ hj => by
            rcases hj with hj | hj
            · exact hj
            · exact Nat.le_trans hM6.size hj)
          refine hK.out _ _ (fun _ => trivial) ?_
          clear hK K
          (try simp only [Act.put, List.setIfInBounds_toArray, List.set_cons_zero, List.set_cons_succ])
          refine till_ready (rs := [11]) (by kernel_rfl) (by simp) ?_
          refine till_cons (i := 11) rfl (fun K hK => ?_) till_nil
          (try dsimp (config := { proj := false }) only [List.getElem_toArray, List.getElem_cons_succ, List.getElem_cons_zero])
          refine step_append_vec (S := fun j => wr.heap.size ≤ j) rfl _ _ _ rfl 3 i0 (.int .i64 0) 1 8 Try.underlying35 hi hz0 hz1 hz2 rfl (by omega) _ (0 + 1) ((ids.map (Value.int .i64)).take 0 ++ [Value.int IntKind.i64 y]) rfl hv7 _ (0) ((ids.map (Value.int .i64)).drop (0)) rfl (HD.out.modNil hM7) (by have := HN.out; simp only [List.length_drop, List.length_map]; omega) (fun u hu => ints_one ids u (List.mem_of_mem_drop hu)) (by unfold maxLen; omega) (by omega) ?_
          intro v8 w8 hv8 hm8
          rw [show 0 + 1 + (0) = 0 + 1 by omega] at hv8
          obtain ⟨p8, c8, rfl⟩ := hv8.form
          have hM8 : Mod nil wr w8 := hM7.new hm8 (fun j hj => hj)
          replace hv8 := hv8.mono (T := fun j => wr.heap.size ≤ j) (fun j _ hj => by
            rcases hj with hj | hj
            · exact hj
            · exact Nat.le_trans hM7.size hj)
          refine hK.out _ _ (fun _ => trivial) ?_
          clear hK K
          (try simp only [Act.put, List.setIfInBounds_toArray, List.set_cons_zero, List.set_cons_succ])
          refine till_ready (rs := [12]) (by kernel_rfl) (by simp) ?_
          refine till_cons (i := 12) rfl (fun K hK => ?_) till_nil
          (try dsimp (config := { proj := false }) only [List.getElem_toArray, List.getElem_cons_succ, List.getElem_cons_zero])
          go_simp
          refine hK.out _ _ (fun h => (by simp at h)) ?_
          clear hK K
          (try simp only [Act.put, List.setIfInBounds_toArray, List.set_cons_zero, List.set_cons_succ])
          refine till_done (by kernel_rfl) ?_ _
          go_wp2_with fail
          refine ⟨⟨kk + 1, by omega, by go_num, ?_, ?_, HMOD.out.thenNil hM8⟩, by simp [intOf]; omega⟩
          · exact Lib.hid (fun h => by have := HINS.out; rw [this] at h; simp at h)
          · exact ids_fin HINS.out HN.out hv8.trim (by have := HMOD.out.size; omega)
      · subst hu
        have hrow := HVEC.out.row
        have HROW := Lib.hid hrow
        clear hrow
        go_wp2_with fail
        refine (refHas _ _ ids y _ HROW.out (by have := HN.out; omega)).mono ?_
        rintro e w5 ⟨rfl, rfl⟩
        by_cases hin : y ∈ ids
        · rw [decide_eq_true hin]
          have HIN := Lib.hid hin
          clear hin
          go_wp2_with fail
          have hsame : idsOf (l.take (kk + 1)) = ids := by rw [ids_same l kk hkl (by rw [HY.out, HIDS.out]; exact HIN.out), HIDS.out]
          refine ⟨⟨kk + 1, by omega, by go_num, ?_, ?_, HMOD.out⟩, by simp [intOf]; omega⟩
          · rw [hsame]; exact HNIL
          · rw [hsame, HN.out]; exact HVEC.out
        · rw [decide_eq_false hin]
          have HIN := Lib.hid hin
          clear hin
          go_upto_block 2 with (fail)
          go_cut [6] from 55 (fun s6 wx => wr = wx ∧ ∃ q : Nat, s6 = .int .i64 q ∧ q ≤ m ∧ Hid (∀ j, (hj : j < ids.length) → q ≤ j → y < ids[j]) ∧ Hid (∀ j, (hj : j < ids.length) → j + 1 = q → ids[j] ≤ y))
          case first =>
            go_wp2_with fail
            go_loopw [6] (fun v wx => ∃ q : Nat, v = .int .i64 q ∧ q ≤ m ∧ wx = wr ∧ Hid (∀ j, (hj : j < ids.length) → q ≤ j → y < ids[j])) (fun v _ => (intOf v).toNat)
            case atStart => exact ⟨m, rfl, by omega, rfl, Lib.hid (fun j hj hq => by have := HN.out; omega)⟩
            case round =>
              obtain ⟨q, rfl, hqm, hwx, HGT⟩ := hrel
              subst hwx
              rcases Nat.eq_zero_or_pos q with hq0 | hq0
              · subst hq0
                go_wp2_with fail
                go_meet
                exact ⟨rfl, 0, rfl, by omega, HGT, Lib.hid (fun j hj h => by omega)⟩
              · obtain ⟨q1, rfl⟩ : ∃ q1, q = q1 + 1 := ⟨q - 1, by omega⟩
                have hql : q1 < ids.length := by have := HN.out; omega
                obtain ⟨z, hz⟩ : ∃ z, ids[q1] = z := ⟨_, rfl⟩
                obtain ⟨pz, cz, hvz, hcz⟩ := HROW.out
                obtain ⟨bz, oz, hpz, _, _, hxz⟩ := hcz q1 (by simpa using hql)
                simp only [Value.slice.injEq] at hvz
                obtain ⟨rfl, -, -⟩ := hvz
                simp only [Option.some.injEq, Addr.mk.injEq] at hpz
                obtain ⟨rfl, rfl, -⟩ := hpz
                have hcell : wr.cell? ⟨g0, q1, none⟩ = some (.int .i64 z) := by rw [Nat.zero_add] at hxz; rw [hxz, ← hz]; simp [hql]
                have HZ := Lib.hid hz
                clear hxz hcz hz
                by_cases hyz : y < z
                · have HYZ := Lib.hid hyz
                  go_wp2_with fail
                  refine ⟨⟨q1, by go_num, by omega, trivial, Lib.hid (fun j hj hq => ?_)⟩, by simp [intOf]⟩
                  rcases (show q1 + 1 ≤ j ∨ j = q1 by omega) with h | rfl
                  · exact HGT.out j hj h
                  · rw [HZ.out]; exact HYZ.out
                · have HYZ := Lib.hid hyz
                  go_wp2_with fail
                  go_meet
                  refine ⟨rfl, q1 + 1, rfl, hqm, HGT, Lib.hid (fun j hj h => ?_)⟩
                  obtain rfl : j = q1 := by omega
                  rw [HZ.out]
                  have := HYZ.out
                  omega
          case rest =>
            obtain ⟨hwx, q, rfl, hqm, HGT, HLE⟩ := hcut
            subst hwx
            have HINS := Lib.hid (show idsOf (l.take (kk + 1)) = ids.take q ++ [y] ++ ids.drop q from by
              have h := ids_ins l kk hkl ids HIDS.out (by rw [HY.out]; exact HIN.out) q (by rw [HN.out]; exact hqm) (fun j hj hq => by rw [HY.out]; exact HGT.out j hj hq) (fun j hj hq => by rw [HY.out]; exact HLE.out j hj hq)
              rw [h, HY.out])
            by_cases hqlt : q < m
            · have hqc : q ≤ cu := by omega
              have hcq : ¬ (cu = q) := by omega
              have hdr0 := HROW.out.dropCells q (m - q) (cu - q)
              rw [Nat.zero_add] at hdr0
              have HT := Lib.hid (HROW.out.takeCells q cu)
              have HD := Lib.hid hdr0
              clear hdr0
              have HLK := Lib.hid (show ((ids.map (Value.int .i64)).take q).length = q from by have := HN.out; simp only [List.length_take, List.length_map]; omega)
              go_upto_region 10 with (fail)
              refine region_till (fun _ => True) 12 (by kernel_rfl) ?_
              refine till_take (i := 1) (v := ?_) rfl (by kernel_rfl) (by kernel_rfl) (by kernel_rfl) (by kernel_rfl) (by kernel_rfl) (by kernel_rfl) (fun _ _ _ h => h) (Or.inl ⟨by kernel_rfl, ?_⟩) (trivial) ?_
              rotate_left
              · intro w hSw; (try dsimp only at hSw); (first | (go_simp; done) | (go_simp; with_reducible rfl))
              (try simp only [Act.put]); (try simp only [List.setIfInBounds_toArray])
              refine till_take (i := 2) (v := ?_) rfl (by kernel_rfl) (by kernel_rfl) (by kernel_rfl) (by kernel_rfl) (by kernel_rfl) (by kernel_rfl) (fun _ _ _ h => h) (Or.inl ⟨by kernel_rfl, ?_⟩) (trivial) ?_
              rotate_left
              · intro w hSw; (try dsimp only at hSw); (first | (go_simp; done) | (go_simp; with_reducible rfl))
              (try simp only [Act.put]); (try simp only [List.setIfInBounds_toArray])
              refine till_take (i := 3) (v := ?_) rfl (by kernel_rfl) (by kernel_rfl) (by kernel_rfl) (by kernel_rfl) (by kernel_rfl) (by kernel_rfl) (fun _ _ _ h => h) (Or.inl ⟨by kernel_rfl, ?_⟩) (trivial) ?_
              rotate_left
              · intro w hSw; (try dsimp only at hSw); (first | (go_simp; done) | (go_simp; with_reducible rfl))
              (try simp only [Act.put]); (try simp only [List.setIfInBounds_toArray])
              refine till_take (i := 5) (v := ?_) rfl (by kernel_rfl) (by kernel_rfl) (by kernel_rfl) (by kernel_rfl) (by kernel_rfl) (by kernel_rfl) (fun _ _ _ h => h) (Or.inl ⟨by kernel_rfl, ?_⟩) (trivial) ?_
              rotate_left
              · intro w hSw; (try dsimp only at hSw); (first | (go_simp; done) | (go_simp; with_reducible rfl))
              (try simp only [Act.put]); (try simp only [List.setIfInBounds_toArray])
              refine till_take (i := 8) (v := ?_) rfl (by kernel_rfl) (by kernel_rfl) (by kernel_rfl) (by kernel_rfl) (by kernel_rfl) (by kernel_rfl) (fun _ _ _ h => h) (Or.inl ⟨by kernel_rfl, ?_⟩) (trivial) ?_
              rotate_left
              · intro w hSw; (try dsimp only at hSw); (first | (go_simp; done) | (go_simp; with_reducible rfl))
              (try simp only [Act.put]); (try simp only [List.setIfInBounds_toArray])
              refine till_take (i := 9) (v := ?_) rfl (by kernel_rfl) (by kernel_rfl) (by kernel_rfl) (by kernel_rfl) (by kernel_rfl) (by kernel_rfl) (fun _ _ _ h => h) (Or.inl ⟨by kernel_rfl, ?_⟩) (trivial) ?_
              rotate_left
              · intro w hSw; (try dsimp only at hSw); (first | (go_simp; done) | (go_simp; with_reducible rfl))
              (try simp only [Act.put]); (try simp only [List.setIfInBounds_toArray])
              refine till_take (i := 10) (v := ?_) rfl (by kernel_rfl) (by kernel_rfl) (by kernel_rfl) (by kernel_rfl) (by kernel_rfl) (by kernel_rfl) (fun _ _ _ h => h) (Or.inl ⟨by kernel_rfl, ?_⟩) (trivial) ?_
              rotate_left
              · intro w hSw; (try dsimp only at hSw); (first | (go_simp; done) | (go_simp; with_reducible rfl))
              (try simp only [Act.put]); (try simp only [List.setIfInBounds_toArray])
              refine till_ready (rs := [0, 6]) (by kernel_rfl) (by simp) ?_
              refine till_cons (i := 0) rfl (fun K hK => ?_) ?_
              · (try dsimp (config := { proj := false }) only [List.getElem_toArray, List.getElem_cons_succ, List.getElem_cons_zero])
                go_simp
                refine hK.out _ _ (fun _ => trivial) ?_
                clear hK K
                (try simp only [Act.put, List.setIfInBounds_toArray, List.set_cons_zero, List.set_cons_succ])
                have hv := (vec_empty_at wr 3 1 _ rfl).modNil (Mod.refl nil _).drew
                have hM := ((Mod.refl nil wr).alloc (.cells #[] 3)).drew
                have hG : wr.heap.size ≤ wr.heap.size := Nat.le_refl _
                refine till_ready (rs := [4, 6]) (by kernel_rfl) (by simp) ?_
                refine till_cons (i := 4) rfl (fun K hK => ?_) ?_
                · (try dsimp (config := { proj := false }) only [List.getElem_toArray, List.getElem_cons_succ, List.getElem_cons_zero])
                  refine step_append_vec rfl _ _ _ rfl 3 i0 (.int .i64 0) 1 8 Try.underlying35 hi hz0 hz1 hz2 rfl (by omega) _ 0 [] rfl hv _ q _ rfl (HT.out.modNil hM) (by simp [HLK.out]) (fun u hu => ints_one ids u (List.mem_of_mem_take hu)) (by unfold maxLen; omega) (by omega) ?_
                  intro v6 w6 hv6 hm6
                  rw [Nat.zero_add, List.nil_append] at hv6
                  obtain ⟨p6, c6, rfl⟩ := hv6.form
                  have hM6 : Mod nil wr w6 := hM.new hm6 (fun j hj => by rw [hj]; exact hG)
                  replace hv6 := hv6.mono (T := fun j => wr.heap.size ≤ j) (fun j _ hj => by
                    rcases hj with hj | hj
                    · rw [hj]; exact hG
                    · exact Nat.le_trans hM.size hj)
                  refine hK.out _ _ (fun _ => trivial) ?_
                  clear hK K
                  (try simp only [Act.put, List.setIfInBounds_toArray, List.set_cons_zero, List.set_cons_succ])
                  refine till_ready (rs := [6]) (by kernel_rfl) (by simp) ?_
                  refine till_cons (i := 6) rfl (fun K hK => ?_) till_nil
                  (try dsimp (config := { proj := false }) only [List.getElem_toArray, List.getElem_cons_succ, List.getElem_cons_zero])
                  go_simp
                  refine hK.out _ _ (fun _ => trivial) ?_
                  clear hK K
                  (try simp only [Act.put, List.setIfInBounds_toArray, List.set_cons_zero, List.set_cons_succ])
                  have hB := cells_one_at w6 3 (.int .i64 y) _ rfl
                  replace hv6 := hv6.modNil ((Mod.refl nil w6).alloc (.cells #[.int .i64 y] 3))
                  replace hM6 := hM6.alloc (.cells #[.int .i64 y] 3)
                  refine till_ready (rs := [7]) (by kernel_rfl) (by simp) ?_
                  refine till_cons (i := 7) rfl (fun K hK => ?_) till_nil
                  (try dsimp (config := { proj := false }) only [List.getElem_toArray, List.getElem_cons_succ, List.getElem_cons_zero])
                  refine step_append_vec (S := fun j => wr.heap.size ≤ j) rfl _ _ _ rfl 3 i0 (.int .i64 0) 1 8 Try.underlying35 hi hz0 hz1 hz2 rfl (by omega) _ q ((ids.map (Value.int .i64)).take q) rfl hv6 _ 1 [Value.int IntKind.i64 y] rfl hB rfl (by simp [Value.oneCell']) (by unfold maxLen; omega) (by omega) ?_
                  intro v7 w7 hv7 hm7
                  obtain ⟨p7, c7, rfl⟩ := hv7.form
                  have hM7 : Mod nil wr w7 := hM6.new hm7 (fun j hj => hj)
                  replace hv7 := hv7.mono (T := fun j => wr.heap.size ≤ j) (fun j _ hj => by
                    rcases hj with hj | hj
                    · exact hj
                    · exact Nat.le_trans hM6.size hj)
                  refine hK.out _ _ (fun _ => trivial) ?_
                  clear hK K
                  (try simp only [Act.put, List.setIfInBounds_toArray, List.set_cons_zero, List.set_cons_succ])
                  refine till_ready (rs := [11]) (by kernel_rfl) (by simp) ?_
                  refine till_cons (i := 11) rfl (fun K hK => ?_) till_nil
                  (try dsimp (config := { proj := false }) only [List.getElem_toArray, List.getElem_cons_succ, List.getElem_cons_zero])
                  refine step_append_vec (S := fun j => wr.heap.size ≤ j) rfl _ _ _ rfl 3 i0 (.int .i64 0) 1 8 Try.underlying35 hi hz0 hz1 hz2 rfl (by omega) _ (q + 1) ((ids.map (Value.int .i64)).take q ++ [Value.int IntKind.i64 y]) rfl hv7 _ (m - q) ((ids.map (Value.int .i64)).drop (q)) rfl (HD.out.modNil hM7) (by have := HN.out; simp only [List.length_drop, List.length_map]; omega) (fun u hu => ints_one ids u (List.mem_of_mem_drop hu)) (by unfold maxLen; omega) (by omega) ?_
                  intro v8 w8 hv8 hm8
                  rw [show q + 1 + (m - q) = m + 1 by omega] at hv8
                  obtain ⟨p8, c8, rfl⟩ := hv8.form
                  have hM8 : Mod nil wr w8 := hM7.new hm8 (fun j hj => hj)
                  replace hv8 := hv8.mono (T := fun j => wr.heap.size ≤ j) (fun j _ hj => by
                    rcases hj with hj | hj
                    · exact hj
                    · exact Nat.le_trans hM7.size hj)
                  refine hK.out _ _ (fun _ => trivial) ?_
                  clear hK K
                  (try simp only [Act.put, List.setIfInBounds_toArray, List.set_cons_zero, List.set_cons_succ])
                  refine till_ready (rs := [12]) (by kernel_rfl) (by simp) ?_
                  refine till_cons (i := 12) rfl (fun K hK => ?_) till_nil
                  (try dsimp (config := { proj := false }) only [List.getElem_toArray, List.getElem_cons_succ, List.getElem_cons_zero])
                  go_simp
                  refine hK.out _ _ (fun h => (by simp at h)) ?_
                  clear hK K
                  (try simp only [Act.put, List.setIfInBounds_toArray, List.set_cons_zero, List.set_cons_succ])
                  refine till_done (by kernel_rfl) ?_ _
                  go_wp2_with fail
                  refine ⟨⟨kk + 1, by omega, by go_num, ?_, ?_, HMOD.out.thenNil hM8⟩, by simp [intOf]; omega⟩
                  · exact Lib.hid (fun h => by have := HINS.out; rw [this] at h; simp at h)
                  · exact ids_fin HINS.out HN.out hv8.trim (by have := HMOD.out.size; omega)
                refine till_cons (i := 6) rfl (fun K hK => ?_) till_nil
                (try dsimp (config := { proj := false }) only [List.getElem_toArray, List.getElem_cons_succ, List.getElem_cons_zero])
                go_simp
                refine hK.out _ _ (fun _ => trivial) ?_
                clear hK K
                (try simp only [Act.put, List.setIfInBounds_toArray, List.set_cons_zero, List.set_cons_succ])
                have hB := (cells_one_at (wr.alloc (.cells #[] 3)) 3 (.int .i64 y) (wr.heap.size + 1) (by simp)).modNil (Mod.refl nil _).drew
                replace hv := ((vec_empty_at wr 3 1 _ rfl).modNil ((Mod.refl nil _).alloc (.cells #[.int .i64 y] 3))).modNil (Mod.refl nil _).drew
                replace hM := (((Mod.refl nil wr).alloc (.cells #[] 3)).alloc (.cells #[.int .i64 y] 3)).drew
                refine till_ready (rs := [4]) (by kernel_rfl) (by simp) ?_
                refine till_cons (i := 4) rfl (fun K hK => ?_) till_nil
                (try dsimp (config := { proj := false }) only [List.getElem_toArray, List.getElem_cons_succ, List.getElem_cons_zero])
                refine step_append_vec rfl _ _ _ rfl 3 i0 (.int .i64 0) 1 8 Try.underlying35 hi hz0 hz1 hz2 rfl (by omega) _ 0 [] rfl hv _ q _ rfl (HT.out.modNil hM) (by simp [HLK.out]) (fun u hu => ints_one ids u (List.mem_of_mem_take hu)) (by unfold maxLen; omega) (by omega) ?_
                intro v6 w6 hv6 hm6
                rw [Nat.zero_add, List.nil_append] at hv6
                obtain ⟨p6, c6, rfl⟩ := hv6.form
                have hM6 : Mod nil wr w6 := hM.new hm6 (fun j hj => by rw [hj]; exact hG)
                replace hv6 := hv6.mono (T := fun j => wr.heap.size ≤ j) (fun j _ hj => by
                  rcases hj with hj | hj
                  · rw [hj]; exact hG
                  · exact Nat.le_trans hM.size hj)
                replace hB := hB.mod hm6 (fun j _ hj e => by omega)
                refine hK.out _ _ (fun _ => trivial) ?_
                clear hK K
                (try simp only [Act.put, List.setIfInBounds_toArray, List.set_cons_zero, List.set_cons_succ])
                refine till_ready (rs := [7]) (by kernel_rfl) (by simp) ?_
                refine till_cons (i := 7) rfl (fun K hK => ?_) till_nil
                (try dsimp (config := { proj := false }) only [List.getElem_toArray, List.getElem_cons_succ, List.getElem_cons_zero])
                refine step_append_vec (S := fun j => wr.heap.size ≤ j) rfl _ _ _ rfl 3 i0 (.int .i64 0) 1 8 Try.underlying35 hi hz0 hz1 hz2 rfl (by omega) _ q ((ids.map (Value.int .i64)).take q) rfl hv6 _ 1 [Value.int IntKind.i64 y] rfl hB rfl (by simp [Value.oneCell']) (by unfold maxLen; omega) (by omega) ?_
                intro v7 w7 hv7 hm7
                obtain ⟨p7, c7, rfl⟩ := hv7.form
                have hM7 : Mod nil wr w7 := hM6.new hm7 (fun j hj => hj)
                replace hv7 := hv7.mono (T := fun j => wr.heap.size ≤ j) (fun j _ hj => by
                  rcases hj with hj | hj
                  · exact hj
                  · exact Nat.le_trans hM6.size hj)
                refine hK.out _ _ (fun _ => trivial) ?_
                clear hK K
                (try simp only [Act.put, List.setIfInBounds_toArray, List.set_cons_zero, List.set_cons_succ])
                refine till_ready (rs := [11]) (by kernel_rfl) (by simp) ?_
                refine till_cons (i := 11) rfl (fun K hK => ?_) till_nil
                (try dsimp (config := { proj := false }) only [List.getElem_toArray, List.getElem_cons_succ, List.getElem_cons_zero])
                refine step_append_vec (S := fun j => wr.heap.size ≤ j) rfl _ _ _ rfl 3 i0 (.int .i64 0) 1 8 Try.underlying35 hi hz0 hz1 hz2 rfl (by omega) _ (q + 1) ((ids.map (Value.int .i64)).take q ++ [Value.int IntKind.i64 y]) rfl hv7 _ (m - q) ((ids.map (Value.int .i64)).drop (q)) rfl (HD.out.modNil hM7) (by have := HN.out; simp only [List.length_drop, List.length_map]; omega) (fun u hu => ints_one ids u (List.mem_of_mem_drop hu)) (by unfold maxLen; omega) (by omega) ?_
                intro v8 w8 hv8 hm8
                rw [show q + 1 + (m - q) = m + 1 by omega] at hv8
                obtain ⟨p8, c8, rfl⟩ := hv8.form
                have hM8 : Mod nil wr w8 := hM7.new hm8 (fun j hj => hj)
                replace hv8 := hv8.mono (T := fun j => wr.heap.size ≤ j) (fun j _ hj => by
                  rcases hj with hj | hj
                  · exact hj
                  · exact Nat.le_trans hM7.size hj)
                refine hK.out _ _ (fun _ => trivial) ?_
                clear hK K
                (try simp only [Act.put, List.setIfInBounds_toArray, List.set_cons_zero, List.set_cons_succ])
                refine till_ready (rs := [12]) (by kernel_rfl) (by simp) ?_
                refine till_cons (i := 12) rfl (fun K hK => ?_) till_nil
                (try dsimp (config := { proj := false }) only [List.getElem_toArray, List.getElem_cons_succ, List.getElem_cons_zero])
                go_simp
                refine hK.out _ _ (fun h => (by simp at h)) ?_
                clear hK K
                (try simp only [Act.put, List.setIfInBounds_toArray, List.set_cons_zero, List.set_cons_succ])
                refine till_done (by kernel_rfl) ?_ _
                go_wp2_with fail
                refine ⟨⟨kk + 1, by omega, by go_num, ?_, ?_, HMOD.out.thenNil hM8⟩, by simp [intOf]; omega⟩
                · exact Lib.hid (fun h => by have := HINS.out; rw [this] at h; simp at h)
                · exact ids_fin HINS.out HN.out hv8.trim (by have := HMOD.out.size; omega)
              refine till_cons (i := 6) rfl (fun K hK => ?_) till_nil
              (try dsimp (config := { proj := false }) only [List.getElem_toArray, List.getElem_cons_succ, List.getElem_cons_zero])
              go_simp
              refine hK.out _ _ (fun _ => trivial) ?_
              clear hK K
              (try simp only [Act.put, List.setIfInBounds_toArray, List.set_cons_zero, List.set_cons_succ])
              refine till_ready (rs := [0]) (by kernel_rfl) (by simp) ?_
              refine till_cons (i := 0) rfl (fun K hK => ?_) till_nil
              (try dsimp (config := { proj := false }) only [List.getElem_toArray, List.getElem_cons_succ, List.getElem_cons_zero])
              go_simp
              refine hK.out _ _ (fun _ => trivial) ?_
              clear hK K
              (try simp only [Act.put, List.setIfInBounds_toArray, List.set_cons_zero, List.set_cons_succ])
              have hv := (vec_empty_at (wr.alloc (.cells #[.int .i64 y] 3)) 3 1 (wr.heap.size + 1) (by simp)).modNil (Mod.refl nil _).drew
              have hB := ((cells_one_at wr 3 (.int .i64 y) _ rfl).modNil ((Mod.refl nil _).alloc (.cells #[] 3))).modNil (Mod.refl nil _).drew
              have hM := (((Mod.refl nil wr).alloc (.cells #[.int .i64 y] 3)).alloc (.cells #[] 3)).drew
              have hG : wr.heap.size ≤ wr.heap.size + 1 := Nat.le_succ _
              refine till_ready (rs := [4]) (by kernel_rfl) (by simp) ?_
              refine till_cons (i := 4) rfl (fun K hK => ?_) till_nil
              (try dsimp (config := { proj := false }) only [List.getElem_toArray, List.getElem_cons_succ, List.getElem_cons_zero])
              refine step_append_vec rfl _ _ _ rfl 3 i0 (.int .i64 0) 1 8 Try.underlying35 hi hz0 hz1 hz2 rfl (by omega) _ 0 [] rfl hv _ q _ rfl (HT.out.modNil hM) (by simp [HLK.out]) (fun u hu => ints_one ids u (List.mem_of_mem_take hu)) (by unfold maxLen; omega) (by omega) ?_
              intro v6 w6 hv6 hm6
              rw [Nat.zero_add, List.nil_append] at hv6
              obtain ⟨p6, c6, rfl⟩ := hv6.form
              have hM6 : Mod nil wr w6 := hM.new hm6 (fun j hj => by rw [hj]; exact hG)
              replace hv6 := hv6.mono (T := fun j => wr.heap.size ≤ j) (fun j _ hj => by
                rcases hj with hj | hj
                · rw [hj]; exact hG
                · exact Nat.le_trans hM.size hj)
              replace hB := hB.mod hm6 (fun j _ hj e => by omega)
              refine hK.out _ _ (fun _ => trivial) ?_
              clear hK K
              (try simp only [Act.put, List.setIfInBounds_toArray, List.set_cons_zero, List.set_cons_succ])
              refine till_ready (rs := [7]) (by kernel_rfl) (by simp) ?_
              refine till_cons (i := 7) rfl (fun K hK => ?_) till_nil
              (try dsimp (config := { proj := false }) only [List.getElem_toArray, List.getElem_cons_succ, List.getElem_cons_zero])
              refine step_append_vec (S := fun j => wr.heap.size ≤ j) rfl _ _ _ rfl 3 i0 (.int .i64 0) 1 8 Try.underlying35 hi hz0 hz1 hz2 rfl (by omega) _ q ((ids.map (Value.int .i64)).take q) rfl hv6 _ 1 [Value.int IntKind.i64 y] rfl hB rfl (by simp [Value.oneCell']) (by unfold maxLen; omega) (by omega) ?_
              intro v7 w7 hv7 hm7
              obtain ⟨p7, c7, rfl⟩ := hv7.form
              have hM7 : Mod nil wr w7 := hM6.new hm7 (fun j hj => hj)
              replace hv7 := hv7.mono (T := fun j => wr.heap.size ≤ j) (fun j _ hj => by
                rcases hj with hj | hj
                · exact hj
                · exact Nat.le_trans hM6.size hj)
              refine hK.out _ _ (fun _ => trivial) ?_
              clear hK K
              (try simp only [Act.put, List.setIfInBounds_toArray, List.set_cons_zero, List.set_cons_succ])
              refine till_ready (rs := [11]) (by kernel_rfl) (by simp) ?_
              refine till_cons (i := 11) rfl (fun K hK => ?_) till_nil
              (try dsimp (config := { proj := false }) only [List.getElem_toArray, List.getElem_cons_succ, List.getElem_cons_zero])
              refine step_append_vec (S := fun j => wr.heap.size ≤ j) rfl _ _ _ rfl 3 i0 (.int .i64 0) 1 8 Try.underlying35 hi hz0 hz1 hz2 rfl (by omega) _ (q + 1) ((ids.map (Value.int .i64)).take q ++ [Value.int IntKind.i64 y]) rfl hv7 _ (m - q) ((ids.map (Value.int .i64)).drop (q)) rfl (HD.out.modNil hM7) (by have := HN.out; simp only [List.length_drop, List.length_map]; omega) (fun u hu => ints_one ids u (List.mem_of_mem_drop hu)) (by unfold maxLen; omega) (by omega) ?_
              intro v8 w8 hv8 hm8
              rw [show q + 1 + (m - q) = m + 1 by omega] at hv8
              obtain ⟨p8, c8, rfl⟩ := hv8.form
              have hM8 : Mod nil wr w8 := hM7.new hm8 (fun j hj => hj)
              replace hv8 := hv8.mono (T := fun j => wr.heap.size ≤ j) (fun j _ hj => by
                rcases hj with hj | hj
                · exact hj
                · exact Nat.le_trans hM7.size hj)
              refine hK.out _ _ (fun _ => trivial) ?_
              clear hK K
              (try simp only [Act.put, List.setIfInBounds_toArray, List.set_cons_zero, List.set_cons_succ])
              refine till_ready (rs := [12]) (by kernel_rfl) (by simp) ?_
              refine till_cons (i := 12) rfl (fun K hK => ?_) till_nil
              (try dsimp (config := { proj := false }) only [List.getElem_toArray, List.getElem_cons_succ, List.getElem_cons_zero])
              go_simp
              refine hK.out _ _ (fun h => (by simp at h)) ?_
              clear hK K
              (try simp only [Act.put, List.setIfInBounds_toArray, List.set_cons_zero, List.set_cons_succ])
              refine till_done (by kernel_rfl) ?_ _
              go_wp2_with fail
              refine ⟨⟨kk + 1, by omega, by go_num, ?_, ?_, HMOD.out.thenNil hM8⟩, by simp [intOf]; omega⟩
              · exact Lib.hid (fun h => by have := HINS.out; rw [this] at h; simp at h)
              · exact ids_fin HINS.out HN.out hv8.trim (by have := HMOD.out.size; omega)
            · obtain rfl : q = m := by omega
              have hdr : (ids.map (Value.int .i64)).drop q = [] := by have := HN.out; simp; omega
              have HDR := Lib.hid hdr
              clear hdr
              by_cases hck : cu = q
              · subst hck
                have HT := Lib.hid (HROW.out.takeCells cu cu)
                have HD := Lib.hid (show IsCells (fun _ => False) wr (.slice (some ⟨g0, 0, none⟩) 0 0) 0 ((ids.map (Value.int .i64)).drop cu) from by rw [HDR.out]; exact cells_none _ _ _)
                have HLK := Lib.hid (show ((ids.map (Value.int .i64)).take cu).length = cu from by have := HN.out; simp only [List.length_take, List.length_map]; omega)
                go_upto_region 10 with (fail)
                refine region_till (fun _ => True) 12 (by kernel_rfl) ?_
                refine till_take (i := 1) (v := ?_) rfl (by kernel_rfl) (by kernel_rfl) (by kernel_rfl) (by kernel_rfl) (by kernel_rfl) (by kernel_rfl) (fun _ _ _ h => h) (Or.inl ⟨by kernel_rfl, ?_⟩) (trivial) ?_
                rotate_left
                · intro w hSw; (try dsimp only at hSw); (first | (go_simp; done) | (go_simp; with_reducible rfl))
                (try simp only [Act.put]); (try simp only [List.setIfInBounds_toArray])
                refine till_take (i := 2) (v := ?_) rfl (by kernel_rfl) (by kernel_rfl) (by kernel_rfl) (by kernel_rfl) (by kernel_rfl) (by kernel_rfl) (fun _ _ _ h => h) (Or.inl ⟨by kernel_rfl, ?_⟩) (trivial) ?_
                rotate_left
                · intro w hSw; (try dsimp only at hSw); (first | (go_simp; done) | (go_simp; with_reducible rfl))
                (try simp only [Act.put]); (try simp only [List.setIfInBounds_toArray])
                refine till_take (i := 3) (v := ?_) rfl (by kernel_rfl) (by kernel_rfl) (by kernel_rfl) (by kernel_rfl) (by kernel_rfl) (by kernel_rfl) (fun _ _ _ h => h) (Or.inl ⟨by kernel_rfl, ?_⟩) (trivial) ?_
                rotate_left
                · intro w hSw; (try dsimp only at hSw); (first | (go_simp; done) | (go_simp; with_reducible rfl))
                (try simp only [Act.put]); (try simp only [List.setIfInBounds_toArray])
                refine till_take (i := 5) (v := ?_) rfl (by kernel_rfl) (by kernel_rfl) (by kernel_rfl) (by kernel_rfl) (by kernel_rfl) (by kernel_rfl) (fun _ _ _ h => h) (Or.inl ⟨by kernel_rfl, ?_⟩) (trivial) ?_
                rotate_left
                · intro w hSw; (try dsimp only at hSw); (first | (go_simp; done) | (go_simp; with_reducible rfl))
                (try simp only [Act.put]); (try simp only [List.setIfInBounds_toArray])
                refine till_take (i := 8) (v := ?_) rfl (by kernel_rfl) (by kernel_rfl) (by kernel_rfl) (by kernel_rfl) (by kernel_rfl) (by kernel_rfl) (fun _ _ _ h => h) (Or.inl ⟨by kernel_rfl, ?_⟩) (trivial) ?_
                rotate_left
                · intro w hSw; (try dsimp only at hSw); (first | (go_simp; done) | (go_simp; with_reducible rfl))
                (try simp only [Act.put]); (try simp only [List.setIfInBounds_toArray])
                refine till_take (i := 9) (v := ?_) rfl (by kernel_rfl) (by kernel_rfl) (by kernel_rfl) (by kernel_rfl) (by kernel_rfl) (by kernel_rfl) (fun _ _ _ h => h) (Or.inl ⟨by kernel_rfl, ?_⟩) (trivial) ?_
                rotate_left
                · intro w hSw; (try dsimp only at hSw); (first | (go_simp; done) | (go_simp; with_reducible rfl))
                (try simp only [Act.put]); (try simp only [List.setIfInBounds_toArray])
                refine till_take (i := 10) (v := ?_) rfl (by kernel_rfl) (by kernel_rfl) (by kernel_rfl) (by kernel_rfl) (by kernel_rfl) (by kernel_rfl) (fun _ _ _ h => h) (Or.inl ⟨by kernel_rfl, ?_⟩) (trivial) ?_
                rotate_left
                · intro w hSw; (try dsimp only at hSw); (first | (go_simp; done) | (go_simp; with_reducible rfl))
                (try simp only [Act.put]); (try simp only [List.setIfInBounds_toArray])
                refine till_ready (rs := [0, 6]) (by kernel_rfl) (by simp) ?_
                refine till_cons (i := 0) rfl (fun K hK => ?_) ?_
                · (try dsimp (config := { proj := false }) only [List.getElem_toArray, List.getElem_cons_succ, List.getElem_cons_zero])
                  go_simp
                  refine hK.out _ _ (fun _ => trivial) ?_
                  clear hK K
                  (try simp only [Act.put, List.setIfInBounds_toArray, List.set_cons_zero, List.set_cons_succ])
                  have hv := (vec_empty_at wr 3 1 _ rfl).modNil (Mod.refl nil _).drew
                  have hM := ((Mod.refl nil wr).alloc (.cells #[] 3)).drew
                  have hG : wr.heap.size ≤ wr.heap.size := Nat.le_refl _
                  refine till_ready (rs := [4, 6]) (by kernel_rfl) (by simp) ?_
                  refine till_cons (i := 4) rfl (fun K hK => ?_) ?_
                  · (try dsimp (config := { proj := false }) only [List.getElem_toArray, List.getElem_cons_succ, List.getElem_cons_zero])
                    refine step_append_vec rfl _ _ _ rfl 3 i0 (.int .i64 0) 1 8 Try.underlying35 hi hz0 hz1 hz2 rfl (by omega) _ 0 [] rfl hv _ cu _ rfl (HT.out.modNil hM) (by simp [HLK.out]) (fun u hu => ints_one ids u (List.mem_of_mem_take hu)) (by unfold maxLen; omega) (by omega) ?_
                    intro v6 w6 hv6 hm6
                    rw [Nat.zero_add, List.nil_append] at hv6
                    obtain ⟨p6, c6, rfl⟩ := hv6.form
                    have hM6 : Mod nil wr w6 := hM.new hm6 (fun j hj => by rw [hj]; exact hG)
                    replace hv6 := hv6.mono (T := fun j => wr.heap.size ≤ j) (fun j _ hj => by
                      rcases hj with hj | hj
                      · rw [hj]; exact hG
                      · exact Nat.le_trans hM.size hj)
                    refine hK.out _ _ (fun _ => trivial) ?_
                    clear hK K
                    (try simp only [Act.put, List.setIfInBounds_toArray, List.set_cons_zero, List.set_cons_succ])
                    refine till_ready (rs := [6]) (by kernel_rfl) (by simp) ?_
                    refine till_cons (i := 6) rfl (fun K hK => ?_) till_nil
                    (try dsimp (config := { proj := false }) only [List.getElem_toArray, List.getElem_cons_succ, List.getElem_cons_zero])
                    go_simp
                    refine hK.out _ _ (fun _ => trivial) ?_
                    clear hK K
                    (try simp only [Act.put, List.setIfInBounds_toArray, List.set_cons_zero, List.set_cons_succ])
                    have hB := cells_one_at w6 3 (.int .i64 y) _ rfl
                    replace hv6 := hv6.modNil ((Mod.refl nil w6).alloc (.cells #[.int .i64 y] 3))
                    replace hM6 := hM6.alloc (.cells #[.int .i64 y] 3)
                    refine till_ready (rs := [7]) (by kernel_rfl) (by simp) ?_
                    refine till_cons (i := 7) rfl (fun K hK => ?_) till_nil
                    (try dsimp (config := { proj := false }) only [List.getElem_toArray, List.getElem_cons_succ, List.getElem_cons_zero])
                    refine step_append_vec (S := fun j => wr.heap.size ≤ j) rfl _ _ _ rfl 3 i0 (.int .i64 0) 1 8 Try.underlying35 hi hz0 hz1 hz2 rfl (by omega) _ cu ((ids.map (Value.int .i64)).take cu) rfl hv6 _ 1 [Value.int IntKind.i64 y] rfl hB rfl (by simp [Value.oneCell']) (by unfold maxLen; omega) (by omega) ?_
                    intro v7 w7 hv7 hm7
                    obtain ⟨p7, c7, rfl⟩ := hv7.form
                    have hM7 : Mod nil wr w7 := hM6.new hm7 (fun j hj => hj)
                    replace hv7 := hv7.mono (T := fun j => wr.heap.size ≤ j) (fun j _ hj => by
                      rcases hj with hj | hj
                      · exact hj
                      · exact Nat.le_trans hM6.size hj)
                    refine hK.out _ _ (fun _ => trivial) ?_
                    clear hK K
                    (try simp only [Act.put, List.setIfInBounds_toArray, List.set_cons_zero, List.set_cons_succ])
                    refine till_ready (rs := [11]) (by kernel_rfl) (by simp) ?_
                    refine till_cons (i := 11) rfl (fun K hK => ?_) till_nil
                    (try dsimp (config := { proj := false }) only [List.getElem_toArray, List.getElem_cons_succ, List.getElem_cons_zero])
                    refine step_append_vec (S := fun j => wr.heap.size ≤ j) rfl _ _ _ rfl 3 i0 (.int .i64 0) 1 8 Try.underlying35 hi hz0 hz1 hz2 rfl (by omega) _ (cu + 1) ((ids.map (Value.int .i64)).take cu ++ [Value.int IntKind.i64 y]) rfl hv7 _ (0) ((ids.map (Value.int .i64)).drop (cu)) rfl (HD.out.modNil hM7) (by have := HN.out; simp only [List.length_drop, List.length_map]; omega) (fun u hu => ints_one ids u (List.mem_of_mem_drop hu)) (by unfold maxLen; omega) (by omega) ?_
                    intro v8 w8 hv8 hm8
                    rw [show cu + 1 + (0) = cu + 1 by omega] at hv8
                    obtain ⟨p8, c8, rfl⟩ := hv8.form
                    have hM8 : Mod nil wr w8 := hM7.new hm8 (fun j hj => hj)
                    replace hv8 := hv8.mono (T := fun j => wr.heap.size ≤ j) (fun j _ hj => by
                      rcases hj with hj | hj
                      · exact hj
                      · exact Nat.le_trans hM7.size hj)
                    refine hK.out _ _ (fun _ => trivial) ?_
                    clear hK K
                    (try simp only [Act.put, List.setIfInBounds_toArray, List.set_cons_zero, List.set_cons_succ])
                    refine till_ready (rs := [12]) (by kernel_rfl) (by simp) ?_
                    refine till_cons (i := 12) rfl (fun K hK => ?_) till_nil
                    (try dsimp (config := { proj := false }) only [List.getElem_toArray, List.getElem_cons_succ, List.getElem_cons_zero])
                    go_simp
                    refine hK.out _ _ (fun h => (by simp at h)) ?_
                    clear hK K
                    (try simp only [Act.put, List.setIfInBounds_toArray, List.set_cons_zero, List.set_cons_succ])
                    refine till_done (by kernel_rfl) ?_ _
                    go_wp2_with fail
                    refine ⟨⟨kk + 1, by omega, by go_num, ?_, ?_, HMOD.out.thenNil hM8⟩, by simp [intOf]; omega⟩
                    · exact Lib.hid (fun h => by have := HINS.out; rw [this] at h; simp at h)
                    · exact ids_fin HINS.out HN.out hv8.trim (by have := HMOD.out.size; omega)
                  refine till_cons (i := 6) rfl (fun K hK => ?_) till_nil
                  (try dsimp (config := { proj := false }) only [List.getElem_toArray, List.getElem_cons_succ, List.getElem_cons_zero])
                  go_simp
                  refine hK.out _ _ (fun _ => trivial) ?_
                  clear hK K
                  (try simp only [Act.put, List.setIfInBounds_toArray, List.set_cons_zero, List.set_cons_succ])
                  have hB := (cells_one_at (wr.alloc (.cells #[] 3)) 3 (.int .i64 y) (wr.heap.size + 1) (by simp)).modNil (Mod.refl nil _).drew
                  replace hv := ((vec_empty_at wr 3 1 _ rfl).modNil ((Mod.refl nil _).alloc (.cells #[.int .i64 y] 3))).modNil (Mod.refl nil _).drew
                  replace hM := (((Mod.refl nil wr).alloc (.cells #[] 3)).alloc (.cells #[.int .i64 y] 3)).drew
                  refine till_ready (rs := [4]) (by kernel_rfl) (by simp) ?_
                  refine till_cons (i := 4) rfl (fun K hK => ?_) till_nil
                  (try dsimp (config := { proj := false }) only [List.getElem_toArray, List.getElem_cons_succ, List.getElem_cons_zero])
                  refine step_append_vec rfl _ _ _ rfl 3 i0 (.int .i64 0) 1 8 Try.underlying35 hi hz0 hz1 hz2 rfl (by omega) _ 0 [] rfl hv _ cu _ rfl (HT.out.modNil hM) (by simp [HLK.out]) (fun u hu => ints_one ids u (List.mem_of_mem_take hu)) (by unfold maxLen; omega) (by omega) ?_
                  intro v6 w6 hv6 hm6
                  rw [Nat.zero_add, List.nil_append] at hv6
                  obtain ⟨p6, c6, rfl⟩ := hv6.form
                  have hM6 : Mod nil wr w6 := hM.new hm6 (fun j hj => by rw [hj]; exact hG)
                  replace hv6 := hv6.mono (T := fun j => wr.heap.size ≤ j) (fun j _ hj => by
                    rcases hj with hj | hj
                    · rw [hj]; exact hG
                    · exact Nat.le_trans hM.size hj)
                  replace hB := hB.mod hm6 (fun j _ hj e => by omega)
                  refine hK.out _ _ (fun _ => trivial) ?_
                  clear hK K
                  (try simp only [Act.put, List.setIfInBounds_toArray, List.set_cons_zero, List.set_cons_succ])
                  refine till_ready (rs := [7]) (by kernel_rfl) (by simp) ?_
                  refine till_cons (i := 7) rfl (fun K hK => ?_) till_nil
                  (try dsimp (config := { proj := false }) only [List.getElem_toArray, List.getElem_cons_succ, List.getElem_cons_zero])
                  refine step_append_vec (S := fun j => wr.heap.size ≤ j) rfl _ _ _ rfl 3 i0 (.int .i64 0) 1 8 Try.underlying35 hi hz0 hz1 hz2 rfl (by omega) _ cu ((ids.map (Value.int .i64)).take cu) rfl hv6 _ 1 [Value.int IntKind.i64 y] rfl hB rfl (by simp [Value.oneCell']) (by unfold maxLen; omega) (by omega) ?_
                  intro v7 w7 hv7 hm7
                  obtain ⟨p7, c7, rfl⟩ := hv7.form
                  have hM7 : Mod nil wr w7 := hM6.new hm7 (fun j hj => hj)
                  replace hv7 := hv7.mono (T := fun j => wr.heap.size ≤ j) (fun j _ hj => by
                    rcases hj with hj | hj
                    · exact hj
                    · exact Nat.le_trans hM6.size hj)
                  refine hK.out _ _ (fun _ => trivial) ?_
                  clear hK K
                  (try simp only [Act.put, List.setIfInBounds_toArray, List.set_cons_zero, List.set_cons_succ])
                  refine till_ready (rs := [11]) (by kernel_rfl) (by simp) ?_
                  refine till_cons (i := 11) rfl (fun K hK => ?_) till_nil
                  (try dsimp (config := { proj := false }) only [List.getElem_toArray, List.getElem_cons_succ, List.getElem_cons_zero])
                  refine step_append_vec (S := fun j => wr.heap.size ≤ j) rfl _ _ _ rfl 3 i0 (.int .i64 0) 1 8 Try.underlying35 hi hz0 hz1 hz2 rfl (by omega) _ (cu + 1) ((ids.map (Value.int .i64)).take cu ++ [Value.int IntKind.i64 y]) rfl hv7 _ (0) ((ids.map (Value.int .i64)).drop (cu)) rfl (HD.out.modNil hM7) (by have := HN.out; simp only [List.length_drop, List.length_map]; omega) (fun u hu => ints_one ids u (List.mem_of_mem_drop hu)) (by unfold maxLen; omega) (by omega) ?_
                  intro v8 w8 hv8 hm8
                  rw [show cu + 1 + (0) = cu + 1 by omega] at hv8
                  obtain ⟨p8, c8, rfl⟩ := hv8.form
                  have hM8 : Mod nil wr w8 := hM7.new hm8 (fun j hj => hj)
                  replace hv8 := hv8.mono (T := fun j => wr.heap.size ≤ j) (fun j _ hj => by
                    rcases hj with hj | hj
                    · exact hj
                    · exact Nat.le_trans hM7.size hj)
                  refine hK.out _ _ (fun _ => trivial) ?_
                  clear hK K
                  (try simp only [Act.put, List.setIfInBounds_toArray, List.set_cons_zero, List.set_cons_succ])
                  refine till_ready (rs := [12]) (by kernel_rfl) (by simp) ?_
                  refine till_cons (i := 12) rfl (fun K hK => ?_) till_nil
                  (try dsimp (config := { proj := false }) only [List.getElem_toArray, List.getElem_cons_succ, List.getElem_cons_zero])
                  go_simp
                  refine hK.out _ _ (fun h => (by simp at h)) ?_
                  clear hK K
                  (try simp only [Act.put, List.setIfInBounds_toArray, List.set_cons_zero, List.set_cons_succ])
                  refine till_done (by kernel_rfl) ?_ _
                  go_wp2_with fail
                  refine ⟨⟨kk + 1, by omega, by go_num, ?_, ?_, HMOD.out.thenNil hM8⟩, by simp [intOf]; omega⟩
                  · exact Lib.hid (fun h => by have := HINS.out; rw [this] at h; simp at h)
                  · exact ids_fin HINS.out HN.out hv8.trim (by have := HMOD.out.size; omega)
                refine till_cons (i := 6) rfl (fun K hK => ?_) till_nil
                (try dsimp (config := { proj := false }) only [List.getElem_toArray, List.getElem_cons_succ, List.getElem_cons_zero])
                go_simp
                refine hK.out _ _ (fun _ => trivial) ?_
                clear hK K
                (try simp only [Act.put, List.setIfInBounds_toArray, List.set_cons_zero, List.set_cons_succ])
                refine till_ready (rs := [0]) (by kernel_rfl) (by simp) ?_
                refine till_cons (i := 0) rfl (fun K hK => ?_) till_nil
                (try dsimp (config := { proj := false }) only [List.getElem_toArray, List.getElem_cons_succ, List.getElem_cons_zero])
                go_simp
                refine hK.out _ _ (fun _ => trivial) ?_
                clear hK K
                (try simp only [Act.put, List.setIfInBounds_toArray, List.set_cons_zero, List.set_cons_succ])
                have hv := (vec_empty_at (wr.alloc (.cells #[.int .i64 y] 3)) 3 1 (wr.heap.size + 1) (by simp)).modNil (Mod.refl nil _).drew
                have hB := ((cells_one_at wr 3 (.int .i64 y) _ rfl).modNil ((Mod.refl nil _).alloc (.cells #[] 3))).modNil (Mod.refl nil _).drew
                have hM := (((Mod.refl nil wr).alloc (.cells #[.int .i64 y] 3)).alloc (.cells #[] 3)).drew
                have hG : wr.heap.size ≤ wr.heap.size + 1 := Nat.le_succ _
                refine till_ready (rs := [4]) (by kernel_rfl) (by simp) ?_
                refine till_cons (i := 4) rfl (fun K hK => ?_) till_nil
                (try dsimp (config := { proj := false }) only [List.getElem_toArray, List.getElem_cons_succ, List.getElem_cons_zero])
                refine step_append_vec rfl _ _ _ rfl 3 i0 (.int .i64 0) 1 8 Try.underlying35 hi hz0 hz1 hz2 rfl (by omega) _ 0 [] rfl hv _ cu _ rfl (HT.out.modNil hM) (by simp [HLK.out]) (fun u hu => ints_one ids u (List.mem_of_mem_take hu)) (by unfold maxLen; omega) (by omega) ?_
                intro v6 w6 hv6 hm6
                rw [Nat.zero_add, List.nil_append] at hv6
                obtain ⟨p6, c6, rfl⟩ := hv6.form
                have hM6 : Mod nil wr w6 := hM.new hm6 (fun j hj => by rw [hj]; exact hG)
                replace hv6 := hv6.mono (T := fun j => wr.heap.size ≤ j) (fun j _ hj => by
                  rcases hj with hj | hj
                  · rw [hj]; exact hG
                  · exact Nat.le_trans hM.size hj)
                replace hB := hB.mod hm6 (fun j _ hj e => by omega)
                refine hK.out _ _ (fun _ => trivial) ?_
                clear hK K
                (try simp only [Act.put, List.setIfInBounds_toArray, List.set_cons_zero, List.set_cons_succ])
                refine till_ready (rs := [7]) (by kernel_rfl) (by simp) ?_
                refine till_cons (i := 7) rfl (fun K hK => ?_) till_nil
                (try dsimp (config := { proj := false }) only [List.getElem_toArray, List.getElem_cons_succ, List.getElem_cons_zero])
                refine step_append_vec (S := fun j => wr.heap.size ≤ j) rfl _ _ _ rfl 3 i0 (.int .i64 0) 1 8 Try.underlying35 hi hz0 hz1 hz2 rfl (by omega) _ cu ((ids.map (Value.int .i64)).take cu) rfl hv6 _ 1 [Value.int IntKind.i64 y] rfl hB rfl (by simp [Value.oneCell']) (by unfold maxLen; omega) (by omega) ?_
                intro v7 w7 hv7 hm7
                obtain ⟨p7, c7, rfl⟩ := hv7.form
                have hM7 : Mod nil wr w7 := hM6.new hm7 (fun j hj => hj)
                replace hv7 := hv7.mono (T := fun j => wr.heap.size ≤ j) (fun j _ hj => by
                  rcases hj with hj | hj
                  · exact hj
                  · exact Nat.le_trans hM6.size hj)
                refine hK.out _ _ (fun _ => trivial) ?_
                clear hK K
                (try simp only [Act.put, List.setIfInBounds_toArray, List.set_cons_zero, List.set_cons_succ])
                refine till_ready (rs := [11]) (by kernel_rfl) (by simp) ?_
                refine till_cons (i := 11) rfl (fun K hK => ?_) till_nil
                (try dsimp (config := { proj := false }) only [List.getElem_toArray, List.getElem_cons_succ, List.getElem_cons_zero])
                refine step_append_vec (S := fun j => wr.heap.size ≤ j) rfl _ _ _ rfl 3 i0 (.int .i64 0) 1 8 Try.underlying35 hi hz0 hz1 hz2 rfl (by omega) _ (cu + 1) ((ids.map (Value.int .i64)).take cu ++ [Value.int IntKind.i64 y]) rfl hv7 _ (0) ((ids.map (Value.int .i64)).drop (cu)) rfl (HD.out.modNil hM7) (by have := HN.out; simp only [List.length_drop, List.length_map]; omega) (fun u hu => ints_one ids u (List.mem_of_mem_drop hu)) (by unfold maxLen; omega) (by omega) ?_
                intro v8 w8 hv8 hm8
                rw [show cu + 1 + (0) = cu + 1 by omega] at hv8
                obtain ⟨p8, c8, rfl⟩ := hv8.form
                have hM8 : Mod nil wr w8 := hM7.new hm8 (fun j hj => hj)
                replace hv8 := hv8.mono (T := fun j => wr.heap.size ≤ j) (fun j _ hj => by
                  rcases hj with hj | hj
                  · exact hj
                  · exact Nat.le_trans hM7.size hj)
                refine hK.out _ _ (fun _ => trivial) ?_
                clear hK K
                (try simp only [Act.put, List.setIfInBounds_toArray, List.set_cons_zero, List.set_cons_succ])
                refine till_ready (rs := [12]) (by kernel_rfl) (by simp) ?_
                refine till_cons (i := 12) rfl (fun K hK => ?_) till_nil
                (try dsimp (config := { proj := false }) only [List.getElem_toArray, List.getElem_cons_succ, List.getElem_cons_zero])
                go_simp
                refine hK.out _ _ (fun h => (by simp at h)) ?_
                clear hK K
                (try simp only [Act.put, List.setIfInBounds_toArray, List.set_cons_zero, List.set_cons_succ])
                refine till_done (by kernel_rfl) ?_ _
                go_wp2_with fail
                refine ⟨⟨kk + 1, by omega, by go_num, ?_, ?_, HMOD.out.thenNil hM8⟩, by simp [intOf]; omega⟩
                · exact Lib.hid (fun h => by have := HINS.out; rw [this] at h; simp at h)
                · exact ids_fin HINS.out HN.out hv8.trim (by have := HMOD.out.size; omega)
              · have hqc : q ≤ cu := by omega
                have HT := Lib.hid (HROW.out.takeCells q cu)
                have HD := Lib.hid (show IsCells (fun _ => False) wr (.slice (some ⟨g0, q, none⟩) 0 (cu - q)) 0 ((ids.map (Value.int .i64)).drop q) from by rw [HDR.out]; exact cells_none _ _ _)
                have HLK := Lib.hid (show ((ids.map (Value.int .i64)).take q).length = q from by have := HN.out; simp only [List.length_take, List.length_map]; omega)
                go_upto_region 10 with (fail)
                refine region_till (fun _ => True) 12 (by kernel_rfl) ?_
                refine till_take (i := 1) (v := ?_) rfl (by kernel_rfl) (by kernel_rfl) (by kernel_rfl) (by kernel_rfl) (by kernel_rfl) (by kernel_rfl) (fun _ _ _ h => h) (Or.inl ⟨by kernel_rfl, ?_⟩) (trivial) ?_
                rotate_left
                · intro w hSw; (try dsimp only at hSw); (first | (go_simp; done) | (go_simp; with_reducible rfl))
                (try simp only [Act.put]); (try simp only [List.setIfInBounds_toArray])
                refine till_take (i := 2) (v := ?_) rfl (by kernel_rfl) (by kernel_rfl) (by kernel_rfl) (by kernel_rfl) (by kernel_rfl) (by kernel_rfl) (fun _ _ _ h => h) (Or.inl ⟨by kernel_rfl, ?_⟩) (trivial) ?_
                rotate_left
                · intro w hSw; (try dsimp only at hSw); (first | (go_simp; done) | (go_simp; with_reducible rfl))
                (try simp only [Act.put]); (try simp only [List.setIfInBounds_toArray])
                refine till_take (i := 3) (v := ?_) rfl (by kernel_rfl) (by kernel_rfl) (by kernel_rfl) (by kernel_rfl) (by kernel_rfl) (by kernel_rfl) (fun _ _ _ h => h) (Or.inl ⟨by kernel_rfl, ?_⟩) (trivial) ?_
                rotate_left
                · intro w hSw; (try dsimp only at hSw); (first | (go_simp; done) | (go_simp; with_reducible rfl))
                (try simp only [Act.put]); (try simp only [List.setIfInBounds_toArray])
                refine till_take (i := 5) (v := ?_) rfl (by kernel_rfl) (by kernel_rfl) (by kernel_rfl) (by kernel_rfl) (by kernel_rfl) (by kernel_rfl) (fun _ _ _ h => h) (Or.inl ⟨by kernel_rfl, ?_⟩) (trivial) ?_
                rotate_left
                · intro w hSw; (try dsimp only at hSw); (first | (go_simp; done) | (go_simp; with_reducible rfl))
                (try simp only [Act.put]); (try simp only [List.setIfInBounds_toArray])
                refine till_take (i := 8) (v := ?_) rfl (by kernel_rfl) (by kernel_rfl) (by kernel_rfl) (by kernel_rfl) (by kernel_rfl) (by kernel_rfl) (fun _ _ _ h => h) (Or.inl ⟨by kernel_rfl, ?_⟩) (trivial) ?_
                rotate_left
                · intro w hSw; (try dsimp only at hSw); (first | (go_simp; done) | (go_simp; with_reducible rfl))
                (try simp only [Act.put]); (try simp only [List.setIfInBounds_toArray])
                refine till_take (i := 9) (v := ?_) rfl (by kernel_rfl) (by kernel_rfl) (by kernel_rfl) (by kernel_rfl) (by kernel_rfl) (by kernel_rfl) (fun _ _ _ h => h) (Or.inl ⟨by kernel_rfl, ?_⟩) (trivial) ?_
                rotate_left
                · intro w hSw; (try dsimp only at hSw); (first | (go_simp; done) | (go_simp; with_reducible rfl))
                (try simp only [Act.put]); (try simp only [List.setIfInBounds_toArray])
                refine till_take (i := 10) (v := ?_) rfl (by kernel_rfl) (by kernel_rfl) (by kernel_rfl) (by kernel_rfl) (by kernel_rfl) (by kernel_rfl) (fun _ _ _ h => h) (Or.inl ⟨by kernel_rfl, ?_⟩) (trivial) ?_
                rotate_left
                · intro w hSw; (try dsimp only at hSw); (first | (go_simp; done) | (go_simp; with_reducible rfl))
                (try simp only [Act.put]); (try simp only [List.setIfInBounds_toArray])
                refine till_ready (rs := [0, 6]) (by kernel_rfl) (by simp) ?_
                refine till_cons (i := 0) rfl (fun K hK => ?_) ?_
                · (try dsimp (config := { proj := false }) only [List.getElem_toArray, List.getElem_cons_succ, List.getElem_cons_zero])
                  go_simp
                  refine hK.out _ _ (fun _ => trivial) ?_
                  clear hK K
                  (try simp only [Act.put, List.setIfInBounds_toArray, List.set_cons_zero, List.set_cons_succ])
                  have hv := (vec_empty_at wr 3 1 _ rfl).modNil (Mod.refl nil _).drew
                  have hM := ((Mod.refl nil wr).alloc (.cells #[] 3)).drew
                  have hG : wr.heap.size ≤ wr.heap.size := Nat.le_refl _
                  refine till_ready (rs := [4, 6]) (by kernel_rfl) (by simp) ?_
                  refine till_cons (i := 4) rfl (fun K hK => ?_) ?_
                  · (try dsimp (config := { proj := false }) only [List.getElem_toArray, List.getElem_cons_succ, List.getElem_cons_zero])
                    refine step_append_vec rfl _ _ _ rfl 3 i0 (.int .i64 0) 1 8 Try.underlying35 hi hz0 hz1 hz2 rfl (by omega) _ 0 [] rfl hv _ q _ rfl (HT.out.modNil hM) (by simp [HLK.out]) (fun u hu => ints_one ids u (List.mem_of_mem_take hu)) (by unfold maxLen; omega) (by omega) ?_
                    intro v6 w6 hv6 hm6
                    rw [Nat.zero_add, List.nil_append] at hv6
                    obtain ⟨p6, c6, rfl⟩ := hv6.form
                    have hM6 : Mod nil wr w6 := hM.new hm6 (fun j hj => by rw [hj]; exact hG)
                    replace hv6 := hv6.mono (T := fun j => wr.heap.size ≤ j) (fun j _ hj => by
                      rcases hj with hj | hj
                      · rw [hj]; exact hG
                      · exact Nat.le_trans hM.size hj)
                    refine hK.out _ _ (fun _ => trivial) ?_
                    clear hK K
                    (try simp only [Act.put, List.setIfInBounds_toArray, List.set_cons_zero, List.set_cons_succ])
                    refine till_ready (rs := [6]) (by kernel_rfl) (by simp) ?_
                    refine till_cons (i := 6) rfl (fun K hK => ?_) till_nil
                    (try dsimp (config := { proj := false }) only [List.getElem_toArray, List.getElem_cons_succ, List.getElem_cons_zero])
                    go_simp
                    refine hK.out _ _ (fun _ => trivial) ?_
                    clear hK K
                    (try simp only [Act.put, List.setIfInBounds_toArray, List.set_cons_zero, List.set_cons_succ])
                    have hB := cells_one_at w6 3 (.int .i64 y) _ rfl
                    replace hv6 := hv6.modNil ((Mod.refl nil w6).alloc (.cells #[.int .i64 y] 3))
                    replace hM6 := hM6.alloc (.cells #[.int .i64 y] 3)
                    refine till_ready (rs := [7]) (by kernel_rfl) (by simp) ?_
                    refine till_cons (i := 7) rfl (fun K hK => ?_) till_nil
                    (try dsimp (config := { proj := false }) only [List.getElem_toArray, List.getElem_cons_succ, List.getElem_cons_zero])
                    refine step_append_vec (S := fun j => wr.heap.size ≤ j) rfl _ _ _ rfl 3 i0 (.int .i64 0) 1 8 Try.underlying35 hi hz0 hz1 hz2 rfl (by omega) _ q ((ids.map (Value.int .i64)).take q) rfl hv6 _ 1 [Value.int IntKind.i64 y] rfl hB rfl (by simp [Value.oneCell']) (by unfold maxLen; omega) (by omega) ?_
                    intro v7 w7 hv7 hm7
                    obtain ⟨p7, c7, rfl⟩ := hv7.form
                    have hM7 : Mod nil wr w7 := hM6.new hm7 (fun j hj => hj)
                    replace hv7 := hv7.mono (T := fun j => wr.heap.size ≤ j) (fun j _ hj => by
                      rcases hj with hj | hj
                      · exact hj
                      · exact Nat.le_trans hM6.size hj)
                    refine hK.out _ _ (fun _ => trivial) ?_
                    clear hK K
                    (try simp only [Act.put, List.setIfInBounds_toArray, List.set_cons_zero, List.set_cons_succ])
                    refine till_ready (rs := [11]) (by kernel_rfl) (by simp) ?_
                    refine till_cons (i := 11) rfl (fun K hK => ?_) till_nil
                    (try dsimp (config := { proj := false }) only [List.getElem_toArray, List.getElem_cons_succ, List.getElem_cons_zero])
                    refine step_append_vec (S := fun j => wr.heap.size ≤ j) rfl _ _ _ rfl 3 i0 (.int .i64 0) 1 8 Try.underlying35 hi hz0 hz1 hz2 rfl (by omega) _ (q + 1) ((ids.map (Value.int .i64)).take q ++ [Value.int IntKind.i64 y]) rfl hv7 _ (0) ((ids.map (Value.int .i64)).drop (q)) rfl (HD.out.modNil hM7) (by have := HN.out; simp only [List.length_drop, List.length_map]; omega) (fun u hu => ints_one ids u (List.mem_of_mem_drop hu)) (by unfold maxLen; omega) (by omega) ?_
                    intro v8 w8 hv8 hm8
                    rw [show q + 1 + (0) = q + 1 by omega] at hv8
                    obtain ⟨p8, c8, rfl⟩ := hv8.form
                    have hM8 : Mod nil wr w8 := hM7.new hm8 (fun j hj => hj)
                    replace hv8 := hv8.mono (T := fun j => wr.heap.size ≤ j) (fun j _ hj => by
                      rcases hj with hj | hj
                      · exact hj
                      · exact Nat.le_trans hM7.size hj)
                    refine hK.out _ _ (fun _ => trivial) ?_
                    clear hK K
                    (try simp only [Act.put, List.setIfInBounds_toArray, List.set_cons_zero, List.set_cons_succ])
                    refine till_ready (rs := [12]) (by kernel_rfl) (by simp) ?_
                    refine till_cons (i := 12) rfl (fun K hK => ?_) till_nil
                    (try dsimp (config := { proj := false }) only [List.getElem_toArray, List.getElem_cons_succ, List.getElem_cons_zero])
                    go_simp
                    refine hK.out _ _ (fun h => (by simp at h)) ?_
                    clear hK K
                    (try simp only [Act.put, List.setIfInBounds_toArray, List.set_cons_zero, List.set_cons_succ])
                    refine till_done (by kernel_rfl) ?_ _
                    go_wp2_with fail
                    refine ⟨⟨kk + 1, by omega, by go_num, ?_, ?_, HMOD.out.thenNil hM8⟩, by simp [intOf]; omega⟩
                    · exact Lib.hid (fun h => by have := HINS.out; rw [this] at h; simp at h)
                    · exact ids_fin HINS.out HN.out hv8.trim (by have := HMOD.out.size; omega)
                  refine till_cons (i := 6) rfl (fun K hK => ?_) till_nil
                  (try dsimp (config := { proj := false }) only [List.getElem_toArray, List.getElem_cons_succ, List.getElem_cons_zero])
                  go_simp
                  refine hK.out _ _ (fun _ => trivial) ?_
                  clear hK K
                  (try simp only [Act.put, List.setIfInBounds_toArray, List.set_cons_zero, List.set_cons_succ])
                  have hB := (cells_one_at (wr.alloc (.cells #[] 3)) 3 (.int .i64 y) (wr.heap.size + 1) (by simp)).modNil (Mod.refl nil _).drew
                  replace hv := ((vec_empty_at wr 3 1 _ rfl).modNil ((Mod.refl nil _).alloc (.cells #[.int .i64 y] 3))).modNil (Mod.refl nil _).drew
                  replace hM := (((Mod.refl nil wr).alloc (.cells #[] 3)).alloc (.cells #[.int .i64 y] 3)).drew
                  refine till_ready (rs := [4]) (by kernel_rfl) (by simp) ?_
                  refine till_cons (i := 4) rfl (fun K hK => ?_) till_nil
                  (try dsimp (config := { proj := false }) only [List.getElem_toArray, List.getElem_cons_succ, List.getElem_cons_zero])
                  refine step_append_vec rfl _ _ _ rfl 3 i0 (.int .i64 0) 1 8 Try.underlying35 hi hz0 hz1 hz2 rfl (by omega) _ 0 [] rfl hv _ q _ rfl (HT.out.modNil hM) (by simp [HLK.out]) (fun u hu => ints_one ids u (List.mem_of_mem_take hu)) (by unfold maxLen; omega) (by omega) ?_
                  intro v6 w6 hv6 hm6
                  rw [Nat.zero_add, List.nil_append] at hv6
                  obtain ⟨p6, c6, rfl⟩ := hv6.form
                  have hM6 : Mod nil wr w6 := hM.new hm6 (fun j hj => by rw [hj]; exact hG)
                  replace hv6 := hv6.mono (T := fun j => wr.heap.size ≤ j) (fun j _ hj => by
                    rcases hj with hj | hj
                    · rw [hj]; exact hG
                    · exact Nat.le_trans hM.size hj)
                  replace hB := hB.mod hm6 (fun j _ hj e => by omega)
                  refine hK.out _ _ (fun _ => trivial) ?_
                  clear hK K
                  (try simp only [Act.put, List.setIfInBounds_toArray, List.set_cons_zero, List.set_cons_succ])
                  refine till_ready (rs := [7]) (by kernel_rfl) (by simp) ?_
                  refine till_cons (i := 7) rfl (fun K hK => ?_) till_nil
                  (try dsimp (config := { proj := false }) only [List.getElem_toArray, List.getElem_cons_succ, List.getElem_cons_zero])
                  refine step_append_vec (S := fun j => wr.heap.size ≤ j) rfl _ _ _ rfl 3 i0 (.int .i64 0) 1 8 Try.underlying35 hi hz0 hz1 hz2 rfl (by omega) _ q ((ids.map (Value.int .i64)).take q) rfl hv6 _ 1 [Value.int IntKind.i64 y] rfl hB rfl (by simp [Value.oneCell']) (by unfold maxLen; omega) (by omega) ?_
                  intro v7 w7 hv7 hm7
                  obtain ⟨p7, c7, rfl⟩ := hv7.form
                  have hM7 : Mod nil wr w7 := hM6.new hm7 (fun j hj => hj)
                  replace hv7 := hv7.mono (T := fun j => wr.heap.size ≤ j) (fun j _ hj => by
                    rcases hj with hj | hj
                    · exact hj
                    · exact Nat.le_trans hM6.size hj)
                  refine hK.out _ _ (fun _ => trivial) ?_
                  clear hK K
                  (try simp only [Act.put, List.setIfInBounds_toArray, List.set_cons_zero, List.set_cons_succ])
                  refine till_ready (rs := [11]) (by kernel_rfl) (by simp) ?_
                  refine till_cons (i := 11) rfl (fun K hK => ?_) till_nil
                  (try dsimp (config := { proj := false }) only [List.getElem_toArray, List.getElem_cons_succ, List.getElem_cons_zero])
                  refine step_append_vec (S := fun j => wr.heap.size ≤ j) rfl _ _ _ rfl 3 i0 (.int .i64 0) 1 8 Try.underlying35 hi hz0 hz1 hz2 rfl (by omega) _ (q + 1) ((ids.map (Value.int .i64)).take q ++ [Value.int IntKind.i64 y]) rfl hv7 _ (0) ((ids.map (Value.int .i64)).drop (q)) rfl (HD.out.modNil hM7) (by have := HN.out; simp only [List.length_drop, List.length_map]; omega) (fun u hu => ints_one ids u (List.mem_of_mem_drop hu)) (by unfold maxLen; omega) (by omega) ?_
                  intro v8 w8 hv8 hm8
                  rw [show q + 1 + (0) = q + 1 by omega] at hv8
                  obtain ⟨p8, c8, rfl⟩ := hv8.form
                  have hM8 : Mod nil wr w8 := hM7.new hm8 (fun j hj => hj)
                  replace hv8 := hv8.mono (T := fun j => wr.heap.size ≤ j) (fun j _ hj => by
                    rcases hj with hj | hj
                    · exact hj
                    · exact Nat.le_trans hM7.size hj)
                  refine hK.out _ _ (fun _ => trivial) ?_
                  clear hK K
                  (try simp only [Act.put, List.setIfInBounds_toArray, List.set_cons_zero, List.set_cons_succ])
                  refine till_ready (rs := [12]) (by kernel_rfl) (by simp) ?_
                  refine till_cons (i := 12) rfl (fun K hK => ?_) till_nil
                  (try dsimp (config := { proj := false }) only [List.getElem_toArray, List.getElem_cons_succ, List.getElem_cons_zero])
                  go_simp
                  refine hK.out _ _ (fun h => (by simp at h)) ?_
                  clear hK K
                  (try simp only [Act.put, List.setIfInBounds_toArray, List.set_cons_zero, List.set_cons_succ])
                  refine till_done (by kernel_rfl) ?_ _
                  go_wp2_with fail
                  refine ⟨⟨kk + 1, by omega, by go_num, ?_, ?_, HMOD.out.thenNil hM8⟩, by simp [intOf]; omega⟩
                  · exact Lib.hid (fun h => by have := HINS.out; rw [this] at h; simp at h)
                  · exact ids_fin HINS.out HN.out hv8.trim (by have := HMOD.out.size; omega)
                refine till_cons (i := 6) rfl (fun K hK => ?_) till_nil
                (try dsimp (config := { proj := false }) only [List.getElem_toArray, List.getElem_cons_succ, List.getElem_cons_zero])
                go_simp
                refine hK.out _ _ (fun _ => trivial) ?_
                clear hK K
                (try simp only [Act.put, List.setIfInBounds_toArray, List.set_cons_zero, List.set_cons_succ])
                refine till_ready (rs := [0]) (by kernel_rfl) (by simp) ?_
                refine till_cons (i := 0) rfl (fun K hK => ?_) till_nil
                (try dsimp (config := { proj := false }) only [List.getElem_toArray, List.getElem_cons_succ, List.getElem_cons_zero])
                go_simp
                refine hK.out _ _ (fun _ => trivial) ?_
                clear hK K
                (try simp only [Act.put, List.setIfInBounds_toArray, List.set_cons_zero, List.set_cons_succ])
                have hv := (vec_empty_at (wr.alloc (.cells #[.int .i64 y] 3)) 3 1 (wr.heap.size + 1) (by simp)).modNil (Mod.refl nil _).drew
                have hB := ((cells_one_at wr 3 (.int .i64 y) _ rfl).modNil ((Mod.refl nil _).alloc (.cells #[] 3))).modNil (Mod.refl nil _).drew
                have hM := (((Mod.refl nil wr).alloc (.cells #[.int .i64 y] 3)).alloc (.cells #[] 3)).drew
                have hG : wr.heap.size ≤ wr.heap.size + 1 := Nat.le_succ _
                refine till_ready (rs := [4]) (by kernel_rfl) (by simp) ?_
                refine till_cons (i := 4) rfl (fun K hK => ?_) till_nil
                (try dsimp (config := { proj := false }) only [List.getElem_toArray, List.getElem_cons_succ, List.getElem_cons_zero])
                refine step_append_vec rfl _ _ _ rfl 3 i0 (.int .i64 0) 1 8 Try.underlying35 hi hz0 hz1 hz2 rfl (by omega) _ 0 [] rfl hv _ q _ rfl (HT.out.modNil hM) (by simp [HLK.out]) (fun u hu => ints_one ids u (List.mem_of_mem_take hu)) (by unfold maxLen; omega) (by omega) ?_
                intro v6 w6 hv6 hm6
                rw [Nat.zero_add, List.nil_append] at hv6
                obtain ⟨p6, c6, rfl⟩ := hv6.form
                have hM6 : Mod nil wr w6 := hM.new hm6 (fun j hj => by rw [hj]; exact hG)
                replace hv6 := hv6.mono (T := fun j => wr.heap.size ≤ j) (fun j _ hj => by
                  rcases hj with hj | hj
                  · rw [hj]; exact hG
                  · exact Nat.le_trans hM.size hj)
                replace hB := hB.mod hm6 (fun j _ hj e => by omega)
                refine hK.out _ _ (fun _ => trivial) ?_
                clear hK K
                (try simp only [Act.put, List.setIfInBounds_toArray, List.set_cons_zero, List.set_cons_succ])
                refine till_ready (rs := [7]) (by kernel_rfl) (by simp) ?_
                refine till_cons (i := 7) rfl (fun K hK => ?_) till_nil
                (try dsimp (config := { proj := false }) only [List.getElem_toArray, List.getElem_cons_succ, List.getElem_cons_zero])
                refine step_append_vec (S := fun j => wr.heap.size ≤ j) rfl _ _ _ rfl 3 i0 (.int .i64 0) 1 8 Try.underlying35 hi hz0 hz1 hz2 rfl (by omega) _ q ((ids.map (Value.int .i64)).take q) rfl hv6 _ 1 [Value.int IntKind.i64 y] rfl hB rfl (by simp [Value.oneCell']) (by unfold maxLen; omega) (by omega) ?_
                intro v7 w7 hv7 hm7
                obtain ⟨p7, c7, rfl⟩ := hv7.form
                have hM7 : Mod nil wr w7 := hM6.new hm7 (fun j hj => hj)
                replace hv7 := hv7.mono (T := fun j => wr.heap.size ≤ j) (fun j _ hj => by
                  rcases hj with hj | hj
                  · exact hj
                  · exact Nat.le_trans hM6.size hj)
                refine hK.out _ _ (fun _ => trivial) ?_
                clear hK K
                (try simp only [Act.put, List.setIfInBounds_toArray, List.set_cons_zero, List.set_cons_succ])
                refine till_ready (rs := [11]) (by kernel_rfl) (by simp) ?_
                refine till_cons (i := 11) rfl (fun K hK => ?_) till_nil
                (try dsimp (config := { proj := false }) only [List.getElem_toArray, List.getElem_cons_succ, List.getElem_cons_zero])
                refine step_append_vec (S := fun j => wr.heap.size ≤ j) rfl _ _ _ rfl 3 i0 (.int .i64 0) 1 8 Try.underlying35 hi hz0 hz1 hz2 rfl (by omega) _ (q + 1) ((ids.map (Value.int .i64)).take q ++ [Value.int IntKind.i64 y]) rfl hv7 _ (0) ((ids.map (Value.int .i64)).drop (q)) rfl (HD.out.modNil hM7) (by have := HN.out; simp only [List.length_drop, List.length_map]; omega) (fun u hu => ints_one ids u (List.mem_of_mem_drop hu)) (by unfold maxLen; omega) (by omega) ?_
                intro v8 w8 hv8 hm8
                rw [show q + 1 + (0) = q + 1 by omega] at hv8
                obtain ⟨p8, c8, rfl⟩ := hv8.form
                have hM8 : Mod nil wr w8 := hM7.new hm8 (fun j hj => hj)
                replace hv8 := hv8.mono (T := fun j => wr.heap.size ≤ j) (fun j _ hj => by
                  rcases hj with hj | hj
                  · exact hj
                  · exact Nat.le_trans hM7.size hj)
                refine hK.out _ _ (fun _ => trivial) ?_
                clear hK K
                (try simp only [Act.put, List.setIfInBounds_toArray, List.set_cons_zero, List.set_cons_succ])
                refine till_ready (rs := [12]) (by kernel_rfl) (by simp) ?_
                refine till_cons (i := 12) rfl (fun K hK => ?_) till_nil
                (try dsimp (config := { proj := false }) only [List.getElem_toArray, List.getElem_cons_succ, List.getElem_cons_zero])
                go_simp
                refine hK.out _ _ (fun h => (by simp at h)) ?_
                clear hK K
                (try simp only [Act.put, List.setIfInBounds_toArray, List.set_cons_zero, List.set_cons_succ])
                refine till_done (by kernel_rfl) ?_ _
                go_wp2_with fail
                refine ⟨⟨kk + 1, by omega, by go_num, ?_, ?_, HMOD.out.thenNil hM8⟩, by simp [intOf]; omega⟩
                · exact Lib.hid (fun h => by have := HINS.out; rw [this] at h; simp at h)
                · exact ids_fin HINS.out HN.out hv8.trim (by have := HMOD.out.size; omega)
    · obtain rfl : kk = n := by omega
      go_wp2_with fail
      go_ret
      rw [show l.take kk = l from by rw [← HLN.out, List.take_length]] at hvec
      exact ⟨_, rfl, hvec.row.mono (fun j _ hj => hj.1), hmod⟩
end Go.Proofs.Ytdpaklpaanojpaa

/- cflref6.Disk's Write and Crash. -/
import Derived.Test.YtjilbnpehgigjaaGreatRefDirty
namespace Go.Proofs.YtjilbnpehgigjaaGreat
open Go.RowKit

theorem bput_keys (m : List (Int × List UInt8)) (k : Int) (l : List UInt8) : (bput m k l).map (·.1) = if k ∈ m.map (·.1) then m.map (·.1) else m.map (·.1) ++ [k] := by
  unfold bput
  split
  · rw [List.map_map]
    exact List.map_congr_left (fun x _ => by simp only [Function.comp]; split <;> simp_all)
  · simp
theorem dirt_bput (d : DS) (k : Int) (l : List UInt8) : DS.dirt { d with pend := bput d.pend k l } = insD d.dirt k := by
  unfold DS.dirt insD
  simp only [bput_keys]
  by_cases h : k ∈ d.pend.map (·.1)
  · rw [if_pos h, if_pos ((asc_perm _).mem_iff.2 h)]
  · rw [if_neg h, if_neg (fun e => h ((asc_perm _).mem_iff.1 e))]
    exact asc_eq (List.Perm.append_right _ (asc_perm _).symm)
theorem dirt_sorted (d : DS) (hn : (d.pend.map (·.1)).Nodup) : d.dirt.Pairwise (· < ·) := by
  have h1 := asc_sorted (d.pend.map (·.1))
  have h2 : (asc (d.pend.map (·.1))).Nodup := (asc_perm _).nodup_iff.2 hn
  exact (List.pairwise_and_iff.2 ⟨h1, h2⟩).imp (fun h => by omega)
theorem bput_nodup (m : List (Int × List UInt8)) (k : Int) (l : List UInt8) (hn : (m.map (·.1)).Nodup) : ((bput m k l).map (·.1)).Nodup := by
  rw [bput_keys]
  split
  · exact hn
  · rename_i h
    rw [List.nodup_append]
    exact ⟨hn, by simp, fun a ha b hb e => h (by simp at hb; subst hb; subst e; exact ha)⟩
theorem IsVec.trim {S : Nat → Prop} {w : World} {E : TypeId} {sz n : Nat} {v : Value} {xs : List Value} (h : IsVec S w E sz v n xs) : IsVec (fun k => S k ∧ k < w.heap.size) w E sz v n xs := h.mono (fun _ hk hs => ⟨hs, hk⟩)
set_option maxRecDepth 100000 in
set_option maxHeartbeats 1000000 in
theorem refWrite (b : Nat) (B T : Nat → Prop) (d : DS) (i : Int) (v : Value) (l : List UInt8) (w : World) (h : IsRefIn w B b d) (hv : IsRow T w v (bys l)) (hT : ∀ k, T k → ¬ B k) (hln : l.length ≤ 9223372036854775807) :
    Calls Tryz.prog 26 #[.pointer (some ⟨b, 0, none⟩), .int .i64 i, v] w fun e w' => e = .returned (.int .i64 (d.write i l).2) ∧ IsRefIn w' (fun k => B k ∨ w.heap.size ≤ k) b (d.write i l).1 ∧ Mod B w w' := by
  obtain ⟨P1, P2, P3, v1, v2, v3, h, hb, hB⟩ := h
  have HV := Lib.hid hv
  obtain ⟨p, c, rfl, hc⟩ := hv
  rw [bys_length] at *
  clear hc
  obtain ⟨m, hm⟩ : ∃ m, l.length = m := ⟨_, rfl⟩
  rw [hm] at hln ⊢
  have HM := Lib.hid hm
  clear hm
  obtain ⟨p1, q1, rfl⟩ := h.now.form
  obtain ⟨n, hn⟩ : ∃ n, d.lasts.length = n := ⟨_, rfl⟩
  have hroom := h.room
  rw [hn] at hroom
  have c0 : w.cell? ⟨b, 0, none⟩ = some (.slice p1 n q1) := by rw [← hn]; exact cell_of h.obj 0
  have c4 : w.cell? ⟨b, 4, none⟩ = some (.bool d.down) := cell_of h.obj 4
  have H := Lib.hid h
  have HN := Lib.hid hn
  have hbB : ∀ k, k < w.heap.size → k = b → B k := fun k _ e => e ▸ hb
  have HBB := Lib.hid hbB
  clear hbB
  have same : IsRefIn w (fun k => B k ∨ w.heap.size ≤ k) b d := ⟨P1, P2, P3, _, v2, v3, h, .inl hb, fun k hk => .inl (hB k hk)⟩
  have HSAME := Lib.hid same
  clear same
  cases hdn : d.down
  · rw [hdn] at c4
    rcases (show i < 0 ∨ (0 ≤ i ∧ (n : Int) ≤ i) ∨ (0 ≤ i ∧ i < n) by omega) with h1 | ⟨h1, h2⟩ | ⟨h1, h2⟩
    · have hs : d.sector i = 1 := by simp [DS.sector, hdn, h1]
      have hr : d.write i l = (d, 1) := by simp [DS.write, hs]
      rw [hr]
      clear h hs hn hr hdn
      go_enter Tryz.func26, Tryz.ntmps26
      go_wp2_with fail
      go_ret
      exact ⟨rfl, HSAME.out, Mod.refl _ _⟩
    · have hs : d.sector i = 1 := by unfold DS.sector; rw [if_neg (by simp [hdn]), if_pos (by omega)]
      have hr : d.write i l = (d, 1) := by simp [DS.write, hs]
      rw [hr]
      clear h hs hn hr hdn
      go_enter Tryz.func26, Tryz.ntmps26
      go_wp2_with fail
      go_ret
      exact ⟨rfl, HSAME.out, Mod.refl _ _⟩
    · have hs : d.sector i = 0 := by unfold DS.sector; rw [if_neg (by simp [hdn]), if_neg (by omega)]
      by_cases h64 : m = 64
      · subst h64
        have h64' : l.length = 64 := HM.out
        cases hh : d.holds
        · have hr : d.write i l = (d.burn, 13) := by simp [DS.write, hs, h64', hh]
          rw [hr]
          have HH := Lib.hid hh
          clear hs hn hr hdn h64' hh
          go_enter Tryz.func26, Tryz.ntmps26
          go_wp2_with fail
          refine (refBurns b P1 P2 P3 _ v2 v3 d w h).mono ?_
          rw [HH.out]
          rintro e w2 ⟨rfl, hd2, hm2⟩
          go_wp2_with fail
          go_ret
          exact ⟨rfl, ⟨P1, P2, P3, _, v2, v3, hd2, .inl hb, fun k hk => .inl (hB k hk)⟩, hm2.mono HBB.out⟩
        · have hr : d.write i l = ({ d.burn with pend := bput d.pend i l }, 0) := by simp [DS.write, hs, h64', hh]
          rw [hr]
          obtain ⟨k, rfl⟩ := Int.eq_ofNat_of_zero_le h1
          have HH := Lib.hid hh
          clear hs hn hr hdn h64' hh
          go_enter Tryz.func26, Tryz.ntmps26
          go_wp2_with fail
          refine (refBurns b P1 P2 P3 _ v2 v3 d w h).mono ?_
          rw [HH.out]
          rintro e w2 ⟨rfl, hd2, hm2⟩
          have hbl := d.burn_lasts
          have hnow := hd2.now
          rw [burn_cur, hbl.1, HN.out] at hnow
          obtain ⟨g1, q1', hv1, hg1, hgl1, ck1, fk1, hset⟩ := vec_set hnow k (by omega)
          simp only [Value.slice.injEq] at hv1
          obtain ⟨rfl, -, rfl⟩ := hv1
          have c02 : w2.cell? ⟨b, 0, none⟩ = some (.slice (some ⟨g1, 0, none⟩) n q1) := by rw [← HN.out]; exact cell_of hd2.obj 0
          have ms : ∀ u, Mod (· = g1) w2 (w2.setCell ⟨g1, k, none⟩ u) := fun u => (Mod.refl _ _).setCell _ _ (fun _ => rfl)
          have hbg : b ≠ g1 := fun e => hd2.p1 (e ▸ hg1)
          have cs0 : ∀ u, (w2.setCell ⟨g1, k, none⟩ u).cell? ⟨b, 0, none⟩ = some (.slice (some ⟨g1, 0, none⟩) n q1) := fun u => cell_kept c02 (ms u) (heap_lt hd2.obj) hbg
          have hrow2 := HV.out.mod hm2 (fun j _ hj e => hT j hj (e ▸ hb))
          have hbg1 : B g1 := hB g1 (.inl hg1)
          have rb := rowText (hrow2.modNil (Mod.refl nil w2).drew)
          have rbs := fun u => rowText ((hrow2.mod (ms u) (fun j _ hj e => hT j hj (e ▸ hbg1))).modNil (Mod.refl nil _).drew)
          rw [HM.out] at rb
          simp only [HM.out] at rbs
          have HD := Lib.hid hd2
          have HSET := Lib.hid hset
          have HMS := Lib.hid ms
          have HM2 := Lib.hid hm2
          have HBL := Lib.hid hbl
          clear hd2 hset ms hm2 hnow hrow2 hbl
          go_wp2_with fail
          go_region_held3 (fun w' => w'.cell? ⟨b, 0, none⟩ = some (.slice (some ⟨g1, 0, none⟩) n q1) ∧ (convert 22 9 (.slice p 64 c)).run Tryz.prog w' = .ok (.string ⟨l.toArray⟩) w') (first | exact ⟨c02, rb⟩ | exact ⟨cs0 _, rbs _⟩) (first | fail)
          go_wp2_with fail
          have hd2 := HD.out
          have hm3 := (HMS.out (.string ⟨l.toArray⟩)).drew
          have ho3 := (hm3.ne b (heap_lt hd2.obj) hbg).trans hd2.obj
          have hset3 := (HSET.out (.string ⟨l.toArray⟩) rfl).modNil (Mod.refl nil _).drew
          have hP2g : ∀ j, j < w2.heap.size → P2 j → ¬ j = g1 := fun j _ hj e => hd2.p12 g1 hg1 (e ▸ hj)
          have hP3g : ∀ j, j < w2.heap.size → P3 j → ¬ j = g1 := fun j _ hj e => hd2.p13 g1 hg1 (e ▸ hj)
          have hlast3 := hd2.last.mod hm3 hP2g
          have hpend3 := hd2.pend.mod hm3 hP3g
          have hsz3 : w2.heap.size ≤ ((w2.setCell ⟨g1, k, none⟩ (.string ⟨l.toArray⟩)).drew).heap.size := hm3.size
          clear rb rbs c02 cs0 fk1 ck1 hd2
          generalize (w2.setCell ⟨g1, k, none⟩ (.string ⟨l.toArray⟩)).drew = w3 at hm3 ho3 hset3 hlast3 hpend3 hsz3 ⊢
          have hbd : d.burn.dirt = d.dirt := by simp only [DS.dirt, HBL.out.2]
          rw [hbd] at hpend3
          refine (refDirty b P3 _ v2 v3 _ _ d.dirt k w3 ho3 hpend3 (by rw [dirt_length]; exact H.out.few) (dirt_sorted d H.out.nodup)).mono ?_
          rintro e w4 ⟨rfl, v3', ho4, hpend4, hm4⟩
          have HO4 := Lib.hid ho4
          clear ho3 ho4 hbd
          go_wp2_with fail
          go_ret
          have hd2 := HD.out
          have hbl := HBL.out
          have hbp : ∀ (P : Nat → Prop), ¬ P b → ∀ j, j < w3.heap.size → P j → ¬ j = b := fun P hP j _ hj e => hP (e ▸ hj)
          refine ⟨rfl, ⟨fun j => P1 j ∧ j < w3.heap.size, fun j => P2 j ∧ j < w3.heap.size, fun j => P3 j ∨ w3.heap.size ≤ j, .slice (some ⟨g1, 0, none⟩) d.lasts.length q1, v2, v3', ?_, .inl hb, ?_⟩, ?_⟩
          · exact { obj := HO4.out
                    now := by
                      have h1 := hset3.trim.mod hm4 (hbp (fun j => P1 j ∧ j < w3.heap.size) (fun h => hd2.p1 h.1))
                      have hc := curs_bput d.burn k l
                      rw [burn_cur, hbl.2] at hc
                      rw [hc, ← strs_set]
                      rw [show (DS.mk d.burn.lasts (bput d.pend k l) d.burn.fuse d.burn.down).lasts.length = n from by simp only [hbl.1, HN.out], HN.out]
                      exact h1
                    last := hlast3.trim.mod hm4 (hbp (fun j => P2 j ∧ j < w3.heap.size) (fun h => hd2.p2 h.1))
                    pend := by
                      have hc := dirt_bput d.burn k l
                      rw [hbl.2] at hc
                      rw [hc]
                      have hbd : d.burn.dirt = d.dirt := by simp only [DS.dirt, hbl.2]
                      rw [hbd]; exact hpend4
                    p1 := fun h => hd2.p1 h.1
                    p2 := fun h => hd2.p2 h.1
                    p3 := fun h => h.elim hd2.p3 (fun h => by have := heap_lt hd2.obj; omega)
                    p12 := fun j h h' => hd2.p12 j h.1 h'.1
                    p13 := fun j h h' => h'.elim (hd2.p13 j h.1) (fun h'' => by have := h.2; omega)
                    p23 := fun j h h' => h'.elim (hd2.p23 j h.1) (fun h'' => by have := h.2; omega)
                    fz := hd2.fz
                    keys := fun q hq => by
                      simp only [hbl.1]
                      rcases bput_mem hq with h | rfl
                      · exact H.out.keys q h
                      · have := HN.out; simp only; omega
                    room := hd2.room
                    nodup := bput_nodup _ _ _ H.out.nodup }
          · intro j hj
            rcases hj with h | h | h | h
            · exact .inl (hB j (.inl h.1))
            · exact .inl (hB j (.inr (.inl h.1)))
            · exact .inl (hB j (.inr (.inr h)))
            · exact .inr (Nat.le_trans (Nat.le_trans HM2.out.size hsz3) h)
          · exact ((HM2.out.mono HBB.out).trans hm3 (fun j _ e => e ▸ hbg1)).trans hm4 (fun j _ e => e ▸ hb)
      · have hr : d.write i l = (d, 2) := by simp [DS.write, hs, HM.out, h64]
        rw [hr]
        clear h hs hn hr hdn
        have h64' : ¬ ((m : Int) = 64) := by omega
        go_enter Tryz.func26, Tryz.ntmps26
        go_wp2_with fail
        go_ret
        exact ⟨rfl, HSAME.out, Mod.refl _ _⟩
  · rw [hdn] at c4
    have hs : d.sector i = 13 := by simp [DS.sector, hdn]
    have hr : d.write i l = (d, 13) := by simp [DS.write, hs]
    rw [hr]
    clear h hs hn hr hdn
    go_enter Tryz.func26, Tryz.ntmps26
    go_wp2_with fail
    go_ret
    exact ⟨rfl, HSAME.out, Mod.refl _ _⟩
end Go.Proofs.YtjilbnpehgigjaaGreat

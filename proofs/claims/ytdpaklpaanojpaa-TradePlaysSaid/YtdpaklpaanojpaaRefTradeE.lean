/- The reference's desk: Matched, Open. -/
import Derived.Test.YtdpaklpaanojpaaRefTradeD
namespace Go.Proofs.Ytdpaklpaanojpaa
open Go.RowKit

set_option maxRecDepth 100000 in
set_option maxHeartbeats 4000000 in
theorem refMatched (x : Nat) (S : Nat → Prop) (p c a : Int) (l : List Said) (w : World) (h : IsRefT w x S p c a l) (hi : Inv l) (hl : l.length ≤ 400) :
    Calls Try.prog 19 #[.pointer (some ⟨x, 0, none⟩)] w fun e w' => ∃ v, e = .returned v ∧ IsCells (fun k => w.heap.size ≤ k) w' v (matchedOf l).length (trades (matchedOf l)) ∧ Mod nil w w' := by
  obtain ⟨i0, hi0, hz0, hz1, hz2⟩ := info_parts info_trade
  have HI := Lib.hid (And.intro hi0 (And.intro hz0 (And.intro hz1 hz2)))
  clear hi0 hz0 hz1 hz2
  have HREF := Lib.hid h
  have HINV := Lib.hid hi
  have HL := Lib.hid hl
  have hids := idsOf_length l
  obtain ⟨n, hn⟩ : ∃ n, (idsOf l).length = n := ⟨_, rfl⟩
  have HN := Lib.hid hn
  have hn4 : n ≤ 400 := by omega
  obtain ⟨S1, S2, v1, v2, h1, h2, h3, h4, h5⟩ := h.ex
  obtain ⟨nl, hnl⟩ : ∃ n, l.length = n := ⟨_, rfl⟩
  rw [hnl] at h3
  obtain ⟨pl, cl, rfl⟩ := h3.form
  have HO := Lib.hid h1
  have hlc0 : IsCells S2 w (.slice pl nl cl) (l.map (·.t)).length (trades (l.map (·.t))) := by rw [List.length_map, hnl, ← tvals_trades]; exact h3.cells
  have HC := Lib.hid hlc0
  have HNL := Lib.hid hnl
  clear hn hids hl h hi h1 h2 h3 h4 h5 hlc0 hnl
  go_enter Try.func19, Try.ntmps19
  go_wp2_with fail
  refine (refIds x S p c a l w HREF.out HL.out).mono ?_
  rintro e w1 ⟨vi, rfl, hrow, hm1⟩
  have HM1 := Lib.hid hm1
  have HROW := Lib.hid hrow
  obtain ⟨p1, c1, rfl, _⟩ := hrow
  simp only [List.length_map]
  rw [HN.out]
  clear hm1
  go_wp2_with fail
  go_loopw [3, 5] (fun u v wr => ∃ k : Nat, k ≤ n ∧ v = .int .i64 k ∧ IsVec (fun j => w1.heap.size ≤ j ∧ j < wr.heap.size) wr 31 7 u (((idsOf l).take k).filterMap (pairOf l)).length (trades (((idsOf l).take k).filterMap (pairOf l))) ∧ Mod nil w1 wr) (fun _ v _ => n - (intOf v).toNat)
  case atStart => exact ⟨0, by omega, rfl, IsVec.nil _ _ _ _, Mod.refl _ _⟩
  case round =>
    obtain ⟨k, hk, rfl, hvec, hmod⟩ := hrel
    by_cases hlt : k < n
    · have hkl : k < (idsOf l).length := by have := HN.out; omega
      have hr := HROW.out.modNil hmod
      rw [show IsRow _ wr (.slice p1 ((idsOf l).map (Value.int .i64)).length c1) _ = IsRow _ wr (.slice p1 n c1) _ from by rw [List.length_map, HN.out]] at hr
      obtain ⟨p', c', hp', hck⟩ := hr
      obtain ⟨bi, oi, hpi, _, _, hcell⟩ := hck k (by simpa using hkl)
      simp only [Value.slice.injEq] at hp'
      obtain ⟨rfl, -, rfl⟩ := hp'
      subst hpi
      obtain ⟨z, hz⟩ : ∃ z, (idsOf l)[k] = z := ⟨_, rfl⟩
      have hcx : wr.cell? ⟨bi, oi + k, none⟩ = some (.int .i64 z) := by rw [hcell, ← hz]; simp [hkl]
      have HZ := Lib.hid hz
      have hplen : (((idsOf l).take k).filterMap (pairOf l)).length ≤ k := by
        have := List.length_filterMap_le (pairOf l) ((idsOf l).take k); simp at this; omega
      obtain ⟨m, hm⟩ : ∃ m, (((idsOf l).take k).filterMap (pairOf l)).length = m := ⟨_, rfl⟩
      rw [hm] at hvec hplen
      have HPL := Lib.hid hm
      obtain ⟨pu, cu, rfl⟩ := hvec.form
      have HVEC := Lib.hid hvec
      have HMOD := Lib.hid hmod
      clear hcell hck hz hvec hmod hm
      go_wp2_with fail
      refine (refPair x S p c a l z wr (HREF.out.modNil (HM1.out.thenNil HMOD.out)) HINV.out HL.out).mono ?_
      rintro e w2 ⟨h | h, hm2⟩
      · obtain ⟨i, y, hiy, rfl, hp⟩ := h
        have HP := Lib.hid hp
        have HM2 := Lib.hid hm2
        clear hp hm2
        obtain ⟨hil, hie⟩ := List.getElem?_eq_some_iff.1 hiy
        have c4 : w2.cell? ⟨x, 4, none⟩ = some (.slice pl nl cl) := cell_of ((HM1.out.thenNil (HMOD.out.thenNil HM2.out)).keep HO.out) 4
        obtain ⟨gl, ol, ⟨c', hv⟩, _, hgl, e0, e1, e2, e3, e4, e5, e6⟩ := trade_cells (HC.out.modNil (HM1.out.thenNil (HMOD.out.thenNil HM2.out))) i (by simpa using hil)
        simp only [Value.slice.injEq] at hv
        obtain ⟨rfl, -, -⟩ := hv
        rw [List.getElem_map, hie] at e0 e1 e2 e3 e4 e5 e6
        obtain ⟨yw, ⟨y1, y2, y3, y4, y5, y6, y7⟩⟩ := y
        simp only at e0 e1 e2 e3 e4 e5 e6
        have hinl : i < nl := by have := HNL.out; omega
        clear hiy hie hil
        have ha6 : Mod nil w2 (w2.alloc (.cells #[.int .i64 y1, .int .i64 y2, .int .i64 y3, .int .i64 y4, .int .i64 y5, .int .i64 y6, .int .i64 y7] 31)) := (Mod.refl nil _).alloc _
        obtain ⟨v7, w7, hrun7, hvec7, hm7⟩ := vec_append (P := Try.prog) 28 28 31 i0 (T7.val ⟨0, 0, 0, 0, 0, 0, 0⟩) 7 56 Try.underlying28 HI.out.1 HI.out.2.1 HI.out.2.2.1 HI.out.2.2.2 rfl (by omega) ((HVEC.out.modNil HM2.out).modNil ha6) (cells_at w2 31 [.int .i64 y1, .int .i64 y2, .int .i64 y3, .int .i64 y4, .int .i64 y5, .int .i64 y6, .int .i64 y7] 1 1 _ rfl) rfl (fun u hu => trade_one ⟨y1, y2, y3, y4, y5, y6, y7⟩ u hu) (by unfold maxLen; omega) (by omega)
        obtain ⟨p7, q7, rfl⟩ := hvec7.form
        have hmod7 := ((HMOD.out.thenNil HM2.out).thenNil ha6).new hm7 (fun j hj => hj.1)
        have hs7 := hm7.size
        have hs6 := ha6.size
        have hs2 := HM2.out.size
        have hs1 := HMOD.out.size
        have HRUN7 := Lib.hid hrun7
        have HV7 := Lib.hid hvec7
        have HMD7 := Lib.hid hmod7
        clear hrun7 hvec7 hmod7 hm7
        go_wp2_with (first | (at_builtin; refine wpList_append_run rfl _ _ _ _ rfl rfl rfl HRUN7.out ?_))
        have hpk : ((idsOf l).take (k + 1)).filterMap (pairOf l) = ((idsOf l).take k).filterMap (pairOf l) ++ [⟨y1, y2, y3, y4, y5, y6, y7⟩] := by rw [filterMap_take _ k (by have := HN.out; omega), HZ.out]; simp [HP.out]
        refine ⟨⟨k + 1, by omega, by go_num, ?_, HMD7.out⟩, by simp [intOf]; omega⟩
        rw [hpk, trades_append, List.length_append, HPL.out]
        exact HV7.out.trim.mono (fun j _ hj => ⟨hj.1.elim (fun h => h.1) (fun h => by omega), hj.2⟩)
      · obtain ⟨rfl, hp⟩ := h
        have HP := Lib.hid hp
        have HM2 := Lib.hid hm2
        clear hp hm2
        go_wp2_with fail
        have hpk : ((idsOf l).take (k + 1)).filterMap (pairOf l) = ((idsOf l).take k).filterMap (pairOf l) := by rw [filterMap_take _ k (by have := HN.out; omega), HZ.out]; simp [HP.out]
        refine ⟨⟨k + 1, by omega, by go_num, ?_, HMOD.out.thenNil HM2.out⟩, by simp [intOf]; omega⟩
        rw [hpk, HPL.out]
        exact (HVEC.out.modNil HM2.out).mono (fun j _ hj => ⟨hj.1, Nat.lt_of_lt_of_le hj.2 HM2.out.size⟩)
    · obtain rfl : k = n := by omega
      go_wp2_with fail
      go_ret
      rw [show (idsOf l).take k = idsOf l from by rw [← HN.out, List.take_length]] at hvec
      rw [matchedOf_eq]
      exact ⟨_, rfl, (hvec.mono (fun j _ hj => Nat.le_trans HM1.out.size hj.1)).cells, HM1.out.thenNil hmod⟩
set_option maxRecDepth 100000 in
set_option maxHeartbeats 4000000 in
theorem refOpen (x : Nat) (S : Nat → Prop) (p c a : Int) (l : List Said) (w : World) (h : IsRefT w x S p c a l) (hi : Inv l) (hl : l.length ≤ 400) :
    Calls Try.prog 21 #[.pointer (some ⟨x, 0, none⟩)] w fun e w' => ∃ v, e = .returned v ∧ IsRow (fun k => w.heap.size ≤ k) w' v ((openOf l).map (Value.int .i64)) ∧ Mod nil w w' := by
  obtain ⟨i0, hi0, hz0, hz1, hz2⟩ := info_parts info_int3
  have HI := Lib.hid (And.intro hi0 (And.intro hz0 (And.intro hz1 hz2)))
  clear hi0 hz0 hz1 hz2
  have HREF := Lib.hid h
  have HINV := Lib.hid hi
  have HL := Lib.hid hl
  have hids := idsOf_length l
  obtain ⟨n, hn⟩ : ∃ n, (idsOf l).length = n := ⟨_, rfl⟩
  have HN := Lib.hid hn
  have hn4 : n ≤ 400 := by omega
  obtain ⟨S1, S2, v1, v2, h1, h2, h3, h4, h5⟩ := h.ex
  obtain ⟨nl, hnl⟩ : ∃ n, l.length = n := ⟨_, rfl⟩
  rw [hnl] at h3
  obtain ⟨pl, cl, rfl⟩ := h3.form
  have HO := Lib.hid h1
  have hlc0 : IsCells S2 w (.slice pl nl cl) (l.map (·.t)).length (trades (l.map (·.t))) := by rw [List.length_map, hnl, ← tvals_trades]; exact h3.cells
  have HC := Lib.hid hlc0
  have HNL := Lib.hid hnl
  clear hn hids hl h hi h1 h2 h3 h4 h5 hlc0 hnl
  go_enter Try.func21, Try.ntmps21
  go_wp2_with fail
  refine (refIds x S p c a l w HREF.out HL.out).mono ?_
  rintro e w1 ⟨vi, rfl, hrow, hm1⟩
  have HM1 := Lib.hid hm1
  have HROW := Lib.hid hrow
  obtain ⟨p1, c1, rfl, _⟩ := hrow
  simp only [List.length_map]
  rw [HN.out]
  clear hm1
  go_wp2_with fail
  go_loopw [3, 5] (fun u v wr => ∃ k : Nat, k ≤ n ∧ v = .int .i64 k ∧ IsVec (fun j => w1.heap.size ≤ j ∧ j < wr.heap.size) wr 3 1 u (((idsOf l).take k).filter (fun i => (pairOf l i).isNone)).length (intsL (((idsOf l).take k).filter (fun i => (pairOf l i).isNone))) ∧ Mod nil w1 wr) (fun _ v _ => n - (intOf v).toNat)
  case atStart => exact ⟨0, by omega, rfl, IsVec.nil _ _ _ _, Mod.refl _ _⟩
  case round =>
    obtain ⟨k, hk, rfl, hvec, hmod⟩ := hrel
    by_cases hlt : k < n
    · have hkl : k < (idsOf l).length := by have := HN.out; omega
      have hr := HROW.out.modNil hmod
      rw [show IsRow _ wr (.slice p1 ((idsOf l).map (Value.int .i64)).length c1) _ = IsRow _ wr (.slice p1 n c1) _ from by rw [List.length_map, HN.out]] at hr
      obtain ⟨p', c', hp', hck⟩ := hr
      obtain ⟨bi, oi, hpi, _, _, hcell⟩ := hck k (by simpa using hkl)
      simp only [Value.slice.injEq] at hp'
      obtain ⟨rfl, -, rfl⟩ := hp'
      subst hpi
      obtain ⟨z, hz⟩ : ∃ z, (idsOf l)[k] = z := ⟨_, rfl⟩
      have hcx : wr.cell? ⟨bi, oi + k, none⟩ = some (.int .i64 z) := by rw [hcell, ← hz]; simp [hkl]
      have HZ := Lib.hid hz
      have hplen : (((idsOf l).take k).filter (fun i => (pairOf l i).isNone)).length ≤ k := by
        have := List.length_filter_le (fun i => (pairOf l i).isNone) ((idsOf l).take k); simp at this; omega
      obtain ⟨m, hm⟩ : ∃ m, (((idsOf l).take k).filter (fun i => (pairOf l i).isNone)).length = m := ⟨_, rfl⟩
      rw [hm] at hvec hplen
      have HPL := Lib.hid hm
      obtain ⟨pu, cu, rfl⟩ := hvec.form
      have HVEC := Lib.hid hvec
      have HMOD := Lib.hid hmod
      clear hcell hck hz hvec hmod hm
      go_wp2_with fail
      refine (refPair x S p c a l z wr (HREF.out.modNil (HM1.out.thenNil HMOD.out)) HINV.out HL.out).mono ?_
      rintro e w2 ⟨h | h, hm2⟩
      · obtain ⟨i, y, hiy, rfl, hp⟩ := h
        have HP := Lib.hid hp
        have HM2 := Lib.hid hm2
        clear hp hm2
        clear hiy
        go_wp2_with fail
        have hpk : ((idsOf l).take (k + 1)).filter (fun i => (pairOf l i).isNone) = ((idsOf l).take k).filter (fun i => (pairOf l i).isNone) := by rw [filter_take _ k (by have := HN.out; omega), HZ.out]; simp [HP.out]
        refine ⟨⟨k + 1, by omega, by go_num, ?_, HMOD.out.thenNil HM2.out⟩, by simp [intOf]; omega⟩
        rw [hpk, HPL.out]
        exact (HVEC.out.modNil HM2.out).mono (fun j _ hj => ⟨hj.1, Nat.lt_of_lt_of_le hj.2 HM2.out.size⟩)
      · obtain ⟨rfl, hp⟩ := h
        have HP := Lib.hid hp
        have HM2 := Lib.hid hm2
        clear hp hm2
        replace hcx := cell_kept hcx HM2.out (World.block_lt_of_cell? _ _ hcx) (not_nil _)
        have ha6 : Mod nil w2 (w2.alloc (.cells #[.int .i64 z] 3)) := (Mod.refl nil _).alloc _
        obtain ⟨v7, w7, hrun7, hvec7, hm7⟩ := vec_append (P := Try.prog) 35 35 3 i0 (.int .i64 0) 1 8 Try.underlying35 HI.out.1 HI.out.2.1 HI.out.2.2.1 HI.out.2.2.2 rfl (by omega) ((HVEC.out.modNil HM2.out).modNil ha6) (cells_at w2 3 [.int .i64 z] 1 1 _ rfl) rfl (by intro u hu; simp at hu; subst hu; rfl) (by unfold maxLen; omega) (by omega)
        obtain ⟨p7, q7, rfl⟩ := hvec7.form
        have hmod7 := ((HMOD.out.thenNil HM2.out).thenNil ha6).new hm7 (fun j hj => hj.1)
        have hs7 := hm7.size
        have hs6 := ha6.size
        have hs2 := HM2.out.size
        have hs1 := HMOD.out.size
        have HRUN7 := Lib.hid hrun7
        have HV7 := Lib.hid hvec7
        have HMD7 := Lib.hid hmod7
        clear hrun7 hvec7 hmod7 hm7
        go_wp2_with (first | (at_builtin; refine wpList_append_run rfl _ _ _ _ rfl rfl rfl HRUN7.out ?_))
        have hpk : ((idsOf l).take (k + 1)).filter (fun i => (pairOf l i).isNone) = ((idsOf l).take k).filter (fun i => (pairOf l i).isNone) ++ [z] := by rw [filter_take _ k (by have := HN.out; omega), HZ.out]; simp [HP.out]
        refine ⟨⟨k + 1, by omega, by go_num, ?_, HMD7.out⟩, by simp [intOf]; omega⟩
        rw [hpk, intsL_append, List.length_append, HPL.out]
        exact HV7.out.trim.mono (fun j _ hj => ⟨hj.1.elim (fun h => h.1) (fun h => by omega), hj.2⟩)
    · obtain rfl : k = n := by omega
      go_wp2_with fail
      go_ret
      rw [show (idsOf l).take k = idsOf l from by rw [← HN.out, List.take_length]] at hvec
      rw [openOf_eq]
      exact ⟨_, rfl, (hvec.mono (fun j _ hj => Nat.le_trans HM1.out.size hj.1)).row, HM1.out.thenNil hmod⟩
end Go.Proofs.Ytdpaklpaanojpaa

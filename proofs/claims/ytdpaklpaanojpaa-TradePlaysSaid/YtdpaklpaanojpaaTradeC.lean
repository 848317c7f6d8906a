/- The walks over package trade: sorted. -/
import Derived.Test.YtdpaklpaanojpaaTradeB
import Derived.Test.YtdpaklpaanojpaaSortC
import Derived.Test.YtdpaklpaanojpaaMap
namespace Go.Proofs.Ytdpaklpaanojpaa
open Go.RowKit

/-- of each number the first trade that two confirmed alike, among so many confirmations -/
def pairsTo (l : List Said) : Nat → List (Int × T7)
  | 0 => []
  | k + 1 => match l[k]? with
    | none => pairsTo l k
    | some x => if x.t.id ∈ (pairsTo l k).map (·.1) ∨ bothB l x = false then pairsTo l k else pairsTo l k ++ [(x.t.id, x.t)]
def vpairs (m : List (Int × T7)) : List (Int × Value) := m.map fun q => (q.1, q.2.val)
theorem vpairs_keys (m : List (Int × T7)) : (vpairs m).map (·.1) = m.map (·.1) := by simp [vpairs]
def idsOf (l : List Said) : List Int := Lib.compact (asc (l.map (·.t.id)))
theorem zero_trade (w : World) : (zeroValue 31).run Try.prog w = .ok (T7.val ⟨0, 0, 0, 0, 0, 0, 0⟩) w := by kernel_rfl
theorem info_int3 : (Try.prog.info? 3).map (fun i => (i.zero, i.size, i.bytes)) = some (some (.int .i64 0), 1, 8) := by kernel_rfl
theorem iput_new (m : List (Int × Value)) (k : Int) (v : Value) (h : k ∉ m.map (·.1)) : iput m k v = m ++ [(k, v)] := by unfold iput; rw [if_neg h]
set_option maxRecDepth 100000 in
set_option maxHeartbeats 2000000 in
theorem tradeSorted (b : Nat) (S : Nat → Prop) (p c a : Int) (l : List Said) (w : World) (h : IsDesk w b S p c a l) (hl : l.length ≤ 400) :
    Calls Try.prog 24 #[.pointer (some ⟨b, 0, none⟩)] w fun e w' => ∃ v bm, e = .returned (.tuple #[v, .map (some bm)]) ∧ IsRow (fun k => w.heap.size < k) w' v ((idsOf l).map (Value.int .i64)) ∧ IMap w' bm (vpairs (pairsTo l l.length)) ∧ bm = w.heap.size ∧ Mod nil w w' := by
  have H := Lib.hid h
  obtain ⟨v, h1, h2⟩ := h.ex
  obtain ⟨pv, cv, rfl⟩ := h2.form
  obtain ⟨n, hn⟩ : ∃ n, l.length = n := ⟨_, rfl⟩
  have HN := Lib.hid hn
  have c3 : w.cell? ⟨b, 3, none⟩ = some (.slice pv n cv) := by rw [← hn]; exact cell_of h1 3
  rw [hn] at hl
  rw [hn]
  have hb := heap_lt h1
  have HVD := Lib.hid h2
  have c31 := cell_kept c3 ((Mod.refl nil w).alloc (.map #[] 0)) hb (not_nil _)
  have hmm := @run_makeMap Try.prog
  obtain ⟨i0, hi, hz0, hz1, hz2⟩ := info_parts info_int3
  have HI := Lib.hid (And.intro hi (And.intro hz0 (And.intro hz1 hz2)))
  clear hi hz0 hz1 hz2 h h1 h2 hn c3
  go_enter Try.func24, Try.ntmps24
  go_wp2_with fail
  clear hmm c31
  have HM0 := Lib.hid (show Mod nil w (w.alloc (.map #[] 0)) from (Mod.refl nil w).alloc _)
  have HP0 := Lib.hid (IMap.new w)
  generalize w.alloc (.map #[] 0) = w1 at HM0 HP0 ⊢
  generalize hbm : w.heap.size = bm at HP0 ⊢
  have HBM := Lib.hid hbm
  clear hbm
  go_loopw [4, 16] (fun u v wr => ∃ k : Nat, k ≤ n ∧ v = .int .i64 k ∧ IsVec (fun j => bm < j ∧ j < wr.heap.size) wr 3 1 u k (((l.take k).map (·.t.id)).map (Value.int .i64)) ∧ IMap wr bm (vpairs (pairsTo l k)) ∧ Mod nil w wr) (fun _ v _ => n - (intOf v).toNat)
  case atStart => exact ⟨0, by omega, rfl, IsVec.nil _ _ _ _, HP0.out, HM0.out⟩
  case round =>
    obtain ⟨k, hk, rfl, hvec, hmap, hmod⟩ := hrel
    by_cases hlt : k < n
    · have hkl : k < l.length := by have := HN.out; omega
      obtain ⟨g, off, ⟨c', hv⟩, _, hgl, c0, c1, c2, c3, c4, c5, c6, c7⟩ := said_cells (HVD.out.modNil hmod).cells k hkl
      simp only [Value.slice.injEq] at hv
      obtain ⟨rfl, -, rfl⟩ := hv
      obtain ⟨x, hx⟩ : ∃ x, l[k] = x := ⟨_, rfl⟩
      rw [hx] at c0 c1 c2 c3 c4 c5 c6 c7
      have hlk : l[k]? = some x := by rw [List.getElem?_eq_getElem hkl, hx]
      have htk : (l.take (k + 1)).map (fun x : Said => x.t.id) = (l.take k).map (fun x : Said => x.t.id) ++ [x.t.id] := by rw [← List.take_append_getElem hkl, hx]; simp
      have hpk : pairsTo l (k + 1) = if x.t.id ∈ (pairsTo l k).map (·.1) ∨ bothB l x = false then pairsTo l k else pairsTo l k ++ [(x.t.id, x.t)] := by rw [pairsTo, hlk]
      obtain ⟨xw, ⟨t1, t2, t3, t4, t5, t6, t7⟩⟩ := x
      simp only at c0 c1 c2 c3 c4 c5 c6 c7 htk hpk
      have HTK := Lib.hid htk
      have HPK := Lib.hid hpk
      obtain ⟨pu, cu, rfl⟩ := hvec.form
      have ha1 : Mod nil wr (wr.alloc (.cells #[.int .i64 xw, .int .i64 t1, .int .i64 t2, .int .i64 t3, .int .i64 t4, .int .i64 t5, .int .i64 t6, .int .i64 t7] 56)) := (Mod.refl nil wr).alloc _
      have ha2 : Mod nil (wr.alloc (.cells #[.int .i64 xw, .int .i64 t1, .int .i64 t2, .int .i64 t3, .int .i64 t4, .int .i64 t5, .int .i64 t6, .int .i64 t7] 56)) ((wr.alloc (.cells #[.int .i64 xw, .int .i64 t1, .int .i64 t2, .int .i64 t3, .int .i64 t4, .int .i64 t5, .int .i64 t6, .int .i64 t7] 56)).alloc (.cells #[.int .i64 t1] 3)) := (Mod.refl nil _).alloc _
      have hbox : (wr.alloc (.cells #[.int .i64 xw, .int .i64 t1, .int .i64 t2, .int .i64 t3, .int .i64 t4, .int .i64 t5, .int .i64 t6, .int .i64 t7] 56)).heap[wr.heap.size]? = some (.cells #[.int .i64 xw, .int .i64 t1, .int .i64 t2, .int .i64 t3, .int .i64 t4, .int .i64 t5, .int .i64 t6, .int .i64 t7] 56 (0, 0)) := heap_alloc_new _ _
      have b1 : (wr.alloc (.cells #[.int .i64 xw, .int .i64 t1, .int .i64 t2, .int .i64 t3, .int .i64 t4, .int .i64 t5, .int .i64 t6, .int .i64 t7] 56)).cell? ⟨wr.heap.size, 1, none⟩ = some (.int .i64 t1) := by rw [cell_of hbox]; rfl
      have hs1 : (wr.alloc (.cells #[.int .i64 xw, .int .i64 t1, .int .i64 t2, .int .i64 t3, .int .i64 t4, .int .i64 t5, .int .i64 t6, .int .i64 t7] 56)).heap.size = wr.heap.size + 1 := by simp
      have hs2 : ((wr.alloc (.cells #[.int .i64 xw, .int .i64 t1, .int .i64 t2, .int .i64 t3, .int .i64 t4, .int .i64 t5, .int .i64 t6, .int .i64 t7] 56)).alloc (.cells #[.int .i64 t1] 3)).heap.size = wr.heap.size + 2 := by simp
      obtain ⟨v4, w4, hrun4, hvec4, hm4⟩ := vec_append (P := Try.prog) 35 35 3 i0 (.int .i64 0) 1 8 Try.underlying35 HI.out.1 HI.out.2.1 HI.out.2.2.1 HI.out.2.2.2 rfl (by omega) ((hvec.modNil ha1).modNil ha2) (cells_one_at (wr.alloc (.cells #[.int .i64 xw, .int .i64 t1, .int .i64 t2, .int .i64 t3, .int .i64 t4, .int .i64 t5, .int .i64 t6, .int .i64 t7] 56)) 3 (.int .i64 t1) (wr.heap.size + 1) hs1) rfl (by simp [Value.oneCell']) (by unfold maxLen; omega) (by omega)
      obtain ⟨p4, q4, rfl⟩ := hvec4.form
      have hbox4 := (hm4.block wr.heap.size (by omega) (fun h => by omega)).trans (ha2.keep hbox)
      have hmap4 := ((hmap.mod ha1 (not_nil _)).mod ha2 (not_nil _)).mod hm4 (fun h => by omega)
      have hmod4 := ((hmod.thenNil ha1).thenNil ha2).new hm4 (fun j hj => by have := HBM.out; omega)
      have hs4 := hm4.size
      rw [hs2] at hs4
      have hvec4' : IsVec (fun j => bm < j ∧ j < w4.heap.size) w4 3 1 (.slice p4 (k + 1) q4) (k + 1) (((l.take (k + 1)).map (fun x : Said => x.t.id)).map (Value.int .i64)) := by
        rw [HTK.out, List.map_append]
        refine (hvec4.trim).mono (fun j _ hj => ⟨?_, hj.2⟩)
        rcases hj.1 with h | h
        · exact h.1
        · have := hmod.size; have := HBM.out; omega
      have HRUN4 := Lib.hid hrun4
      have HV4 := Lib.hid hvec4'
      have HMP4 := Lib.hid hmap4
      have HMD4 := Lib.hid hmod4
      have HBX4 := Lib.hid hbox4
      have hbml : bm < wr.heap.size := hmap.lt
      have HS4 := Lib.hid hs4
      have b4 : ∀ j, j < 8 → w4.cell? ⟨wr.heap.size, j, none⟩ = (#[.int .i64 xw, .int .i64 t1, .int .i64 t2, .int .i64 t3, .int .i64 t4, .int .i64 t5, .int .i64 t6, .int .i64 t7])[j]? := fun j hj => cell_of hbox4 j
      clear htk hpk hvec hmap hmod hbox hvec4 hm4 hvec4' hmap4 hmod4 hbox4 hs1 hs2 hs4 hrun4 ha1 ha2 hx hlk
      have k0 := (b4 0 (by omega)).trans (show _ = some (Value.int .i64 xw) from rfl)
      have k1 := (b4 1 (by omega)).trans (show _ = some (Value.int .i64 t1) from rfl)
      have k2 := (b4 2 (by omega)).trans (show _ = some (Value.int .i64 t2) from rfl)
      have k3 := (b4 3 (by omega)).trans (show _ = some (Value.int .i64 t3) from rfl)
      have k4 := (b4 4 (by omega)).trans (show _ = some (Value.int .i64 t4) from rfl)
      have k5 := (b4 5 (by omega)).trans (show _ = some (Value.int .i64 t5) from rfl)
      have k6 := (b4 6 (by omega)).trans (show _ = some (Value.int .i64 t6) from rfl)
      have k7 := (b4 7 (by omega)).trans (show _ = some (Value.int .i64 t7) from rfl)
      clear b4
      by_cases hin : t1 ∈ (pairsTo l k).map (·.1)
      · obtain ⟨⟨_, y⟩, hy, hyk⟩ := List.mem_map.1 hin
        simp only at hyk
        subst hyk
        have hlook := run_lookup_some (P := Try.prog) Try.underlying58 Try.underlying3 HMP4.out (List.mem_map.2 ⟨_, hy, rfl⟩)
        obtain ⟨y1, y2, y3, y4, y5, y6, y7⟩ := y
        simp only [T7.val] at hlook
        go_wp2_with (first | (at_builtin; refine wpList_append_run rfl _ _ _ _ rfl rfl rfl HRUN4.out ?_))
        have ha5 : Mod nil w4 (w4.alloc (.cells #[.int .i64 y1, .int .i64 y2, .int .i64 y3, .int .i64 y4, .int .i64 y5, .int .i64 y6, .int .i64 y7] 31)) := (Mod.refl nil w4).alloc _
        have hp1 : pairsTo l (k + 1) = pairsTo l k := by rw [HPK.out, if_pos (.inl hin)]
        exact ⟨⟨k + 1, by omega, by go_num, (HV4.out.modNil ha5).mono (fun j _ hj => ⟨hj.1, by have := hj.2; have := ha5.size; omega⟩), by rw [hp1]; exact HMP4.out.mod ha5 (not_nil _), HMD4.out.thenNil ha5⟩, by simp [intOf]; omega⟩
      · have hlook := run_lookup_none (P := Try.prog) Try.underlying58 Try.underlying3 (zero_trade w4) HMP4.out (k := t1) (by rw [vpairs_keys]; exact hin)
        simp only [T7.val] at hlook
        have ha5 : Mod nil w4 (w4.alloc (.cells #[.int .i64 0, .int .i64 0, .int .i64 0, .int .i64 0, .int .i64 0, .int .i64 0, .int .i64 0] 31)) := (Mod.refl nil w4).alloc _
        have j0 := cell_kept k0 ha5 (World.block_lt_of_cell? _ _ k0) (not_nil _)
        have j1 := cell_kept k1 ha5 (World.block_lt_of_cell? _ _ k1) (not_nil _)
        have j2 := cell_kept k2 ha5 (World.block_lt_of_cell? _ _ k2) (not_nil _)
        have j3 := cell_kept k3 ha5 (World.block_lt_of_cell? _ _ k3) (not_nil _)
        have j4 := cell_kept k4 ha5 (World.block_lt_of_cell? _ _ k4) (not_nil _)
        have j5 := cell_kept k5 ha5 (World.block_lt_of_cell? _ _ k5) (not_nil _)
        have j6 := cell_kept k6 ha5 (World.block_lt_of_cell? _ _ k6) (not_nil _)
        have j7 := cell_kept k7 ha5 (World.block_lt_of_cell? _ _ k7) (not_nil _)
        have HA5 := Lib.hid ha5
        have HIN := Lib.hid hin
        clear ha5 hin
        go_wp2_with (first | (at_builtin; refine wpList_append_run rfl _ _ _ _ rfl rfl rfl HRUN4.out ?_))
        have hbo := tradeBothB b S p c a l ⟨xw, ⟨t1, t2, t3, t4, t5, t6, t7⟩⟩ _ ((H.out.modNil HMD4.out).modNil HA5.out) (by have := HN.out; omega)
        obtain ⟨r, hr⟩ : ∃ r, bothB l ⟨xw, ⟨t1, t2, t3, t4, t5, t6, t7⟩⟩ = r := ⟨_, rfl⟩
        rw [hr] at hbo
        have HRR := Lib.hid hr
        clear hr
        refine hbo.mono ?_
        rintro e w6 ⟨rfl, hm6⟩
        clear hbo
        have HM6 := Lib.hid (HA5.out.thenNil hm6)
        replace k0 := cell_kept j0 hm6 (World.block_lt_of_cell? _ _ j0) (not_nil _)
        replace k1 := cell_kept j1 hm6 (World.block_lt_of_cell? _ _ j1) (not_nil _)
        replace k2 := cell_kept j2 hm6 (World.block_lt_of_cell? _ _ j2) (not_nil _)
        replace k3 := cell_kept j3 hm6 (World.block_lt_of_cell? _ _ j3) (not_nil _)
        replace k4 := cell_kept j4 hm6 (World.block_lt_of_cell? _ _ j4) (not_nil _)
        replace k5 := cell_kept j5 hm6 (World.block_lt_of_cell? _ _ j5) (not_nil _)
        replace k6 := cell_kept j6 hm6 (World.block_lt_of_cell? _ _ j6) (not_nil _)
        replace k7 := cell_kept j7 hm6 (World.block_lt_of_cell? _ _ j7) (not_nil _)
        clear hm6 j0 j1 j2 j3 j4 j5 j6 j7 hlook
        have HV6 := Lib.hid ((HV4.out.modNil HM6.out).mono (T := fun j => bm < j ∧ j < w6.heap.size) (fun j _ hj => ⟨hj.1, by have := hj.2; have := HM6.out.size; omega⟩))
        have hmp6 := HMP4.out.mod HM6.out (not_nil _)
        cases r
        · go_wp2_with fail
          have hp1 : pairsTo l (k + 1) = pairsTo l k := by rw [HPK.out, if_pos (.inr HRR.out)]
          exact ⟨⟨k + 1, by omega, by go_num, HV6.out, by rw [hp1]; exact hmp6, HMD4.out.thenNil HM6.out⟩, by simp [intOf]; omega⟩
        · obtain ⟨w7, hrun7, hmap7, hm7, hz7⟩ := run_update (P := Try.prog) Try.underlying58 Try.underlying3 hmp6 t1 (T7.val ⟨t1, t2, t3, t4, t5, t6, t7⟩)
          simp only [T7.val] at hrun7
          have hp1 : pairsTo l (k + 1) = pairsTo l k ++ [(t1, ⟨t1, t2, t3, t4, t5, t6, t7⟩)] := by
            rw [HPK.out, if_neg (by rintro (h | h); exact HIN.out h; rw [HRR.out] at h; cases h)]
          rw [iput_new _ _ _ (by rw [vpairs_keys]; exact HIN.out)] at hmap7
          have HMAP7 := Lib.hid hmap7
          have HM7 := Lib.hid hm7
          have HP1 := Lib.hid hp1
          clear hmap7 hm7 hz7 hp1 hmp6
          go_wp2_with fail
          refine ⟨⟨k + 1, by omega, by go_num, (HV6.out.mod HM7.out (fun j _ hj e => by omega)).mono (fun j _ hj => ⟨hj.1, by have := hj.2; have := HM7.out.size; omega⟩), ?_, (HMD4.out.thenNil HM6.out).new HM7.out (fun j hj => by have := HBM.out; omega)⟩, by simp [intOf]; omega⟩
          rw [HP1.out]
          simpa [vpairs] using HMAP7.out
    · obtain rfl : k = n := by omega
      obtain ⟨pu, cu, rfl⟩ := hvec.form
      have hasc : ((l.take k).map (·.t.id)) = l.map (·.t.id) := by rw [← HN.out, List.take_length]
      rw [hasc] at hvec
      have hvl : (l.map (fun x : Said => x.t.id)).length = k := by rw [List.length_map]; exact HN.out
      have HVEC := Lib.hid hvec
      have HMAP := Lib.hid hmap
      have HMOD := Lib.hid hmod
      have HVL := Lib.hid hvl
      clear hvec hmap hmod hvl hasc
      go_wp2_with fail
      have hsv := vecSortOwn (fun j => bm < j ∧ j < wr.heap.size) 3 (.slice pu k cu) (l.map (fun x : Said => x.t.id)) wr (by rw [HVL.out]; exact HVEC.out) (by rw [HVL.out]; omega)
      refine hsv.mono ?_
      rintro e w5 ⟨rfl, hown, hm5⟩
      have HM5 := Lib.hid hm5
      have HOWN := Lib.hid hown
      clear hsv hm5 hown
      go_wp2_with fail
      refine (ownCompact _ _ _ w5 HOWN.out (by rw [asc_length, HVL.out]; omega)).mono ?_
      rintro e w6 ⟨v6, rfl, hr6, hm6⟩
      have HR6 := Lib.hid hr6
      have HM6 := Lib.hid hm6
      clear hr6 hm6
      go_wp2_with fail
      go_ret2
      have hbm := HBM.out
      refine ⟨v6, bm, rfl, HR6.out.mono (fun j _ hj => by have := hj.1; omega), ?_, hbm.symm, ?_⟩
      · exact (HMAP.out.mod HM5.out (fun hj => by omega)).mod HM6.out (fun hj => by omega)
      · exact (HMOD.out.new HM5.out (fun j hj => by omega)).new HM6.out (fun j hj => by omega)
end Go.Proofs.Ytdpaklpaanojpaa

/- The walks over package trade: Matched, Open. -/
import Derived.Test.YtdpaklpaanojpaaTradeC
namespace Go.Proofs.Ytdpaklpaanojpaa
open Go.RowKit

def trades (l : List T7) : List Value := l.flatMap T7.vals
theorem trades_append (l : List T7) (x : T7) : trades (l ++ [x]) = trades l ++ x.vals := by simp [trades]
theorem trade_one (x : T7) : ∀ u ∈ x.vals, u.oneCell' = true := by
  intro u hu
  simp only [T7.vals, List.mem_cons, List.not_mem_nil, or_false] at hu
  rcases hu with rfl | rfl | rfl | rfl | rfl | rfl | rfl <;> rfl
def tradeAt (m : List (Int × T7)) (i : Int) : Option T7 := (m.find? (fun q => q.1 == i)).map (·.2)
theorem tradeAt_some {m : List (Int × T7)} {i : Int} {y : T7} (hn : (m.map (·.1)).Nodup) (h : (i, y) ∈ m) : tradeAt m i = some y := by
  unfold tradeAt
  cases hf : m.find? (fun q => q.1 == i) with
  | none => have := List.find?_eq_none.1 hf _ h; simp at this
  | some q =>
    have h1 := List.mem_of_find?_eq_some hf
    have h2 := List.find?_some hf
    simp only [beq_iff_eq] at h2
    obtain ⟨q1, q2⟩ := q
    simp only at h2
    subst h2
    obtain ⟨a, ha, ea⟩ := List.getElem_of_mem h1
    obtain ⟨c, hc, ec⟩ := List.getElem_of_mem h
    have hac : a = c := (List.getElem_inj (h₀ := by simpa using ha) (h₁ := by simpa using hc) hn).1 (by simp [ea, ec])
    subst hac
    rw [ea] at ec
    simp only [Prod.mk.injEq, true_and] at ec
    simp [ec]
theorem tradeAt_none {m : List (Int × T7)} {i : Int} (h : i ∉ m.map (·.1)) : tradeAt m i = none := by
  unfold tradeAt
  rw [List.find?_eq_none.2 (fun q hq => by simp; exact fun e => h (List.mem_map.2 ⟨q, hq, e⟩))]
  rfl
def matchedOf (l : List Said) : List T7 := (idsOf l).filterMap (tradeAt (pairsTo l l.length))
def openOf (l : List Said) : List Int := (idsOf l).filter (fun i => (tradeAt (pairsTo l l.length) i).isNone)
theorem info_trade : (Try.prog.info? 31).map (fun i => (i.zero, i.size, i.bytes)) = some (some (T7.val ⟨0, 0, 0, 0, 0, 0, 0⟩), 7, 56) := by kernel_rfl
theorem idsOf_length (l : List Said) : (idsOf l).length ≤ l.length := by
  have := compact_length (asc (l.map (·.t.id)))
  rw [asc_length, List.length_map] at this
  exact this
theorem filterMap_take {α β : Type} (l : List α) (k : Nat) (hk : k < l.length) (f : α → Option β) : (l.take (k + 1)).filterMap f = (l.take k).filterMap f ++ (f l[k]).toList := by
  rw [← List.take_append_getElem hk, List.filterMap_append]
  cases h : f l[k] <;> simp [h]
theorem filter_take {α : Type} (l : List α) (k : Nat) (hk : k < l.length) (f : α → Bool) : (l.take (k + 1)).filter f = (l.take k).filter f ++ (if f l[k] then [l[k]] else []) := by
  rw [← List.take_append_getElem hk, List.filter_append]
  cases h : f l[k] <;> simp [h]
set_option maxRecDepth 100000 in
set_option maxHeartbeats 2000000 in
theorem tradeMatched (b : Nat) (S : Nat → Prop) (p c a : Int) (l : List Said) (w : World) (h : IsDesk w b S p c a l) (hl : l.length ≤ 400) :
    Calls Try.prog 10 #[.pointer (some ⟨b, 0, none⟩)] w fun e w' => ∃ v, e = .returned v ∧ IsCells (fun k => w.heap.size ≤ k) w' v (matchedOf l).length (trades (matchedOf l)) ∧ Mod nil w w' := by
  obtain ⟨i0, hi, hz0, hz1, hz2⟩ := info_parts info_trade
  have HI := Lib.hid (And.intro hi (And.intro hz0 (And.intro hz1 hz2)))
  clear hi hz0 hz1 hz2
  have hids := idsOf_length l
  obtain ⟨n, hn⟩ : ∃ n, (idsOf l).length = n := ⟨_, rfl⟩
  have HN := Lib.hid hn
  have hn4 : n ≤ 400 := by omega
  have HL := Lib.hid hl
  clear hn hids hl
  go_enter Try.func10, Try.ntmps10
  go_wp2_with fail
  refine (tradeSorted b S p c a l w h HL.out).mono ?_
  rintro e w1 ⟨v1, bm, rfl, hrow, hmap, -, hm1⟩
  have HM1 := Lib.hid hm1
  have HROW := Lib.hid hrow
  have HMAP := Lib.hid hmap
  obtain ⟨p1, c1, rfl, _⟩ := hrow
  rw [List.length_map] at *
  rw [HN.out]
  clear h hm1 hmap
  go_wp2_with fail
  go_loopw [5, 17] (fun u v wr => ∃ (k : Nat), k ≤ n ∧ v = .int .i64 k ∧ IsVec (fun j => w1.heap.size ≤ j ∧ j < wr.heap.size) wr 31 7 u (((idsOf l).take k).filterMap (tradeAt (pairsTo l l.length))).length (trades (((idsOf l).take k).filterMap (tradeAt (pairsTo l l.length)))) ∧ Mod nil w1 wr) (fun _ v _ => n - (intOf v).toNat)
  case atStart => exact ⟨0, by omega, rfl, IsVec.nil _ _ _ _, Mod.refl _ _⟩
  case round =>
    obtain ⟨k, hk, rfl, hvec, hmod⟩ := hrel
    by_cases hlt : k < n
    · have hkl : k < (idsOf l).length := by have := HN.out; omega
      obtain ⟨p', c', hp', hck⟩ := HROW.out.modNil hmod
      obtain ⟨bi, oi, hpi, _, _, hcell⟩ := hck k (by simpa using hkl)
      simp only [Value.slice.injEq] at hp'
      obtain ⟨rfl, -, rfl⟩ := hp'
      subst hpi
      obtain ⟨x, hx⟩ : ∃ x, (idsOf l)[k] = x := ⟨_, rfl⟩
      have hcx : wr.cell? ⟨bi, oi + k, none⟩ = some (.int .i64 x) := by rw [hcell, ← hx]; simp [hkl]
      have HX := Lib.hid hx
      have hplen : (((idsOf l).take k).filterMap (tradeAt (pairsTo l l.length))).length ≤ k := by
        have := List.length_filterMap_le (tradeAt (pairsTo l l.length)) ((idsOf l).take k); simp at this; omega
      obtain ⟨m, hm⟩ : ∃ m, (((idsOf l).take k).filterMap (tradeAt (pairsTo l l.length))).length = m := ⟨_, rfl⟩
      rw [hm] at hvec hplen
      have HPL := Lib.hid hm
      obtain ⟨pu, cu, rfl⟩ := hvec.form
      have HVEC := Lib.hid hvec
      have HMOD := Lib.hid hmod
      have hmw := HMAP.out.mod hmod (not_nil _)
      have HMW := Lib.hid hmw
      have hwr := hmod.size
      clear hcell hck hx hvec hmod hm hmw
      by_cases hin : x ∈ (pairsTo l l.length).map (·.1)
      · obtain ⟨⟨_, y⟩, hy, hyk⟩ := List.mem_map.1 hin
        simp only at hyk
        subst hyk
        have hlook := run_lookup_some (P := Try.prog) Try.underlying58 Try.underlying3 HMW.out (List.mem_map.2 ⟨_, hy, rfl⟩)
        have hnd := HMW.out.nodup
        rw [vpairs_keys] at hnd
        have hat := tradeAt_some hnd hy
        obtain ⟨y1, y2, y3, y4, y5, y6, y7⟩ := y
        simp only [T7.val] at hlook
        have ha5 : Mod nil wr (wr.alloc (.cells #[.int .i64 y1, .int .i64 y2, .int .i64 y3, .int .i64 y4, .int .i64 y5, .int .i64 y6, .int .i64 y7] 31)) := (Mod.refl nil wr).alloc _
        have HAT := Lib.hid hat
        clear hat hnd hin hy
        have j0 : (wr.alloc (.cells #[.int .i64 y1, .int .i64 y2, .int .i64 y3, .int .i64 y4, .int .i64 y5, .int .i64 y6, .int .i64 y7] 31)).cell? ⟨wr.heap.size, 0, none⟩ = some (.int .i64 y1) := by rw [cell_of (heap_alloc_new wr _)]; rfl
        have j1 : (wr.alloc (.cells #[.int .i64 y1, .int .i64 y2, .int .i64 y3, .int .i64 y4, .int .i64 y5, .int .i64 y6, .int .i64 y7] 31)).cell? ⟨wr.heap.size, 1, none⟩ = some (.int .i64 y2) := by rw [cell_of (heap_alloc_new wr _)]; rfl
        have j2 : (wr.alloc (.cells #[.int .i64 y1, .int .i64 y2, .int .i64 y3, .int .i64 y4, .int .i64 y5, .int .i64 y6, .int .i64 y7] 31)).cell? ⟨wr.heap.size, 2, none⟩ = some (.int .i64 y3) := by rw [cell_of (heap_alloc_new wr _)]; rfl
        have j3 : (wr.alloc (.cells #[.int .i64 y1, .int .i64 y2, .int .i64 y3, .int .i64 y4, .int .i64 y5, .int .i64 y6, .int .i64 y7] 31)).cell? ⟨wr.heap.size, 3, none⟩ = some (.int .i64 y4) := by rw [cell_of (heap_alloc_new wr _)]; rfl
        have j4 : (wr.alloc (.cells #[.int .i64 y1, .int .i64 y2, .int .i64 y3, .int .i64 y4, .int .i64 y5, .int .i64 y6, .int .i64 y7] 31)).cell? ⟨wr.heap.size, 4, none⟩ = some (.int .i64 y5) := by rw [cell_of (heap_alloc_new wr _)]; rfl
        have j5 : (wr.alloc (.cells #[.int .i64 y1, .int .i64 y2, .int .i64 y3, .int .i64 y4, .int .i64 y5, .int .i64 y6, .int .i64 y7] 31)).cell? ⟨wr.heap.size, 5, none⟩ = some (.int .i64 y6) := by rw [cell_of (heap_alloc_new wr _)]; rfl
        have j6 : (wr.alloc (.cells #[.int .i64 y1, .int .i64 y2, .int .i64 y3, .int .i64 y4, .int .i64 y5, .int .i64 y6, .int .i64 y7] 31)).cell? ⟨wr.heap.size, 6, none⟩ = some (.int .i64 y7) := by rw [cell_of (heap_alloc_new wr _)]; rfl
        have hw6s : (wr.alloc (.cells #[.int .i64 y1, .int .i64 y2, .int .i64 y3, .int .i64 y4, .int .i64 y5, .int .i64 y6, .int .i64 y7] 31)).heap.size = wr.heap.size + 1 := by simp
        have ha6 : Mod nil (wr.alloc (.cells #[.int .i64 y1, .int .i64 y2, .int .i64 y3, .int .i64 y4, .int .i64 y5, .int .i64 y6, .int .i64 y7] 31)) ((wr.alloc (.cells #[.int .i64 y1, .int .i64 y2, .int .i64 y3, .int .i64 y4, .int .i64 y5, .int .i64 y6, .int .i64 y7] 31)).alloc (.cells #[.int .i64 y1, .int .i64 y2, .int .i64 y3, .int .i64 y4, .int .i64 y5, .int .i64 y6, .int .i64 y7] 31)) := (Mod.refl nil _).alloc _
        obtain ⟨v7, w7, hrun7, hvec7, hm7⟩ := vec_append (P := Try.prog) 28 28 31 i0 (T7.val ⟨0, 0, 0, 0, 0, 0, 0⟩) 7 56 Try.underlying28 HI.out.1 HI.out.2.1 HI.out.2.2.1 HI.out.2.2.2 rfl (by omega) ((HVEC.out.modNil ha5).modNil ha6) (cells_at (wr.alloc (.cells #[.int .i64 y1, .int .i64 y2, .int .i64 y3, .int .i64 y4, .int .i64 y5, .int .i64 y6, .int .i64 y7] 31)) 31 [.int .i64 y1, .int .i64 y2, .int .i64 y3, .int .i64 y4, .int .i64 y5, .int .i64 y6, .int .i64 y7] 1 1 (wr.heap.size + 1) hw6s) rfl (fun u hu => trade_one ⟨y1, y2, y3, y4, y5, y6, y7⟩ u hu) (by unfold maxLen; omega) (by omega)
        obtain ⟨p7, q7, rfl⟩ := hvec7.form
        have hmod7 := ((HMOD.out.thenNil ha5).thenNil ha6).new hm7 (fun j hj => hj.1)
        have hs7 := hm7.size
        have hs6 := ha6.size
        have HRUN7 := Lib.hid hrun7
        have HV7 := Lib.hid hvec7
        have HMD7 := Lib.hid hmod7
        clear hrun7 hvec7 hmod7 hm7
        go_wp2_with (first | (at_builtin; refine wpList_append_run rfl _ _ _ _ rfl rfl rfl HRUN7.out ?_))
        have hpk : ((idsOf l).take (k + 1)).filterMap (tradeAt (pairsTo l l.length)) = ((idsOf l).take k).filterMap (tradeAt (pairsTo l l.length)) ++ [⟨y1, y2, y3, y4, y5, y6, y7⟩] := by rw [filterMap_take _ k (by have := HN.out; omega), HX.out]; simp [HAT.out]
        refine ⟨⟨k + 1, by omega, by go_num, ?_, HMD7.out⟩, by simp [intOf]; omega⟩
        rw [hpk, trades_append, List.length_append, HPL.out]
        exact HV7.out.trim.mono (fun j _ hj => ⟨hj.1.elim (fun h => h.1) (fun h => by omega), hj.2⟩)
      · have hlook := run_lookup_none (P := Try.prog) Try.underlying58 Try.underlying3 (zero_trade wr) HMW.out (k := x) (by rw [vpairs_keys]; exact hin)
        simp only [T7.val] at hlook
        have ha5 : Mod nil wr (wr.alloc (.cells #[.int .i64 0, .int .i64 0, .int .i64 0, .int .i64 0, .int .i64 0, .int .i64 0, .int .i64 0] 31)) := (Mod.refl nil wr).alloc _
        have HAT := Lib.hid (tradeAt_none hin)
        clear hin
        go_wp2_with fail
        have hpk : ((idsOf l).take (k + 1)).filterMap (tradeAt (pairsTo l l.length)) = ((idsOf l).take k).filterMap (tradeAt (pairsTo l l.length)) := by rw [filterMap_take _ k (by have := HN.out; omega), HX.out]; simp [HAT.out]
        refine ⟨⟨k + 1, by omega, by go_num, ?_, HMOD.out.thenNil ha5⟩, by simp [intOf]; omega⟩
        rw [hpk, HPL.out]
        exact (HVEC.out.modNil ha5).mono (fun j _ hj => ⟨hj.1, by have := hj.2; have := ha5.size; omega⟩)
    · obtain rfl : k = n := by omega
      go_wp2_with fail
      go_ret
      rw [show (idsOf l).take k = idsOf l from by rw [← HN.out, List.take_length]] at hvec
      exact ⟨_, rfl, (hvec.mono (fun j _ hj => Nat.le_trans HM1.out.size hj.1)).cells, HM1.out.thenNil hmod⟩
def intsL (l : List Int) : List Value := l.map (Value.int .i64)
theorem intsL_append (l : List Int) (x : Int) : intsL (l ++ [x]) = intsL l ++ [.int .i64 x] := by simp [intsL]
set_option maxRecDepth 100000 in
set_option maxHeartbeats 2000000 in
theorem tradeOpen (b : Nat) (S : Nat → Prop) (p c a : Int) (l : List Said) (w : World) (h : IsDesk w b S p c a l) (hl : l.length ≤ 400) :
    Calls Try.prog 11 #[.pointer (some ⟨b, 0, none⟩)] w fun e w' => ∃ v, e = .returned v ∧ IsRow (fun k => w.heap.size ≤ k) w' v ((openOf l).map (Value.int .i64)) ∧ Mod nil w w' := by
  obtain ⟨i0, hi, hz0, hz1, hz2⟩ := info_parts info_int3
  have HI := Lib.hid (And.intro hi (And.intro hz0 (And.intro hz1 hz2)))
  clear hi hz0 hz1 hz2
  have hids := idsOf_length l
  obtain ⟨n, hn⟩ : ∃ n, (idsOf l).length = n := ⟨_, rfl⟩
  have HN := Lib.hid hn
  have hn4 : n ≤ 400 := by omega
  have HL := Lib.hid hl
  clear hn hids hl
  go_enter Try.func11, Try.ntmps11
  go_wp2_with fail
  refine (tradeSorted b S p c a l w h HL.out).mono ?_
  rintro e w1 ⟨v1, bm, rfl, hrow, hmap, -, hm1⟩
  have HM1 := Lib.hid hm1
  have HROW := Lib.hid hrow
  have HMAP := Lib.hid hmap
  obtain ⟨p1, c1, rfl, _⟩ := hrow
  rw [List.length_map] at *
  rw [HN.out]
  clear h hm1 hmap
  go_wp2_with fail
  go_loopw [5, 17] (fun u v wr => ∃ (k : Nat), k ≤ n ∧ v = .int .i64 k ∧ IsVec (fun j => w1.heap.size ≤ j ∧ j < wr.heap.size) wr 3 1 u (((idsOf l).take k).filter (fun i => (tradeAt (pairsTo l l.length) i).isNone)).length (intsL (((idsOf l).take k).filter (fun i => (tradeAt (pairsTo l l.length) i).isNone))) ∧ Mod nil w1 wr) (fun _ v _ => n - (intOf v).toNat)
  case atStart => exact ⟨0, by omega, rfl, IsVec.nil _ _ _ _, Mod.refl _ _⟩
  case round =>
    obtain ⟨k, hk, rfl, hvec, hmod⟩ := hrel
    by_cases hlt : k < n
    · have hkl : k < (idsOf l).length := by have := HN.out; omega
      obtain ⟨p', c', hp', hck⟩ := HROW.out.modNil hmod
      obtain ⟨bi, oi, hpi, _, _, hcell⟩ := hck k (by simpa using hkl)
      simp only [Value.slice.injEq] at hp'
      obtain ⟨rfl, -, rfl⟩ := hp'
      subst hpi
      obtain ⟨x, hx⟩ : ∃ x, (idsOf l)[k] = x := ⟨_, rfl⟩
      have hcx : wr.cell? ⟨bi, oi + k, none⟩ = some (.int .i64 x) := by rw [hcell, ← hx]; simp [hkl]
      have HX := Lib.hid hx
      have hplen : (((idsOf l).take k).filter (fun i => (tradeAt (pairsTo l l.length) i).isNone)).length ≤ k := by
        have := List.length_filter_le (fun i => (tradeAt (pairsTo l l.length) i).isNone) ((idsOf l).take k); simp at this; omega
      obtain ⟨m, hm⟩ : ∃ m, (((idsOf l).take k).filter (fun i => (tradeAt (pairsTo l l.length) i).isNone)).length = m := ⟨_, rfl⟩
      rw [hm] at hvec hplen
      have HPL := Lib.hid hm
      obtain ⟨pu, cu, rfl⟩ := hvec.form
      have HVEC := Lib.hid hvec
      have HMOD := Lib.hid hmod
      have hmw := HMAP.out.mod hmod (not_nil _)
      have HMW := Lib.hid hmw
      have hwr := hmod.size
      clear hcell hck hx hvec hmod hm hmw
      by_cases hin : x ∈ (pairsTo l l.length).map (·.1)
      · obtain ⟨⟨_, y⟩, hy, hyk⟩ := List.mem_map.1 hin
        simp only at hyk
        subst hyk
        have hlook := run_lookup_some (P := Try.prog) Try.underlying58 Try.underlying3 HMW.out (List.mem_map.2 ⟨_, hy, rfl⟩)
        have hnd := HMW.out.nodup
        rw [vpairs_keys] at hnd
        have hat := tradeAt_some hnd hy
        obtain ⟨y1, y2, y3, y4, y5, y6, y7⟩ := y
        simp only [T7.val] at hlook
        have ha5 : Mod nil wr (wr.alloc (.cells #[.int .i64 y1, .int .i64 y2, .int .i64 y3, .int .i64 y4, .int .i64 y5, .int .i64 y6, .int .i64 y7] 31)) := (Mod.refl nil wr).alloc _
        have HAT := Lib.hid hat
        clear hat hnd hin hy
        go_wp2_with fail
        have hpk : ((idsOf l).take (k + 1)).filter (fun i => (tradeAt (pairsTo l l.length) i).isNone) = ((idsOf l).take k).filter (fun i => (tradeAt (pairsTo l l.length) i).isNone) := by rw [filter_take _ k (by have := HN.out; omega), HX.out]; simp [HAT.out]
        refine ⟨⟨k + 1, by omega, by go_num, ?_, HMOD.out.thenNil ha5⟩, by simp [intOf]; omega⟩
        rw [hpk, HPL.out]
        exact (HVEC.out.modNil ha5).mono (fun j _ hj => ⟨hj.1, by have := hj.2; have := ha5.size; omega⟩)
      · have hlook := run_lookup_none (P := Try.prog) Try.underlying58 Try.underlying3 (zero_trade wr) HMW.out (k := x) (by rw [vpairs_keys]; exact hin)
        simp only [T7.val] at hlook
        have ha5 : Mod nil wr (wr.alloc (.cells #[.int .i64 0, .int .i64 0, .int .i64 0, .int .i64 0, .int .i64 0, .int .i64 0, .int .i64 0] 31)) := (Mod.refl nil wr).alloc _
        have HAT := Lib.hid (tradeAt_none hin)
        clear hin
        have hw6s : (wr.alloc (.cells #[.int .i64 0, .int .i64 0, .int .i64 0, .int .i64 0, .int .i64 0, .int .i64 0, .int .i64 0] 31)).heap.size = wr.heap.size + 1 := by simp
        have ha6 : Mod nil (wr.alloc (.cells #[.int .i64 0, .int .i64 0, .int .i64 0, .int .i64 0, .int .i64 0, .int .i64 0, .int .i64 0] 31)) ((wr.alloc (.cells #[.int .i64 0, .int .i64 0, .int .i64 0, .int .i64 0, .int .i64 0, .int .i64 0, .int .i64 0] 31)).alloc (.cells #[.int .i64 x] 3)) := (Mod.refl nil _).alloc _
        obtain ⟨v7, w7, hrun7, hvec7, hm7⟩ := vec_append (P := Try.prog) 35 35 3 i0 (.int .i64 0) 1 8 Try.underlying35 HI.out.1 HI.out.2.1 HI.out.2.2.1 HI.out.2.2.2 rfl (by omega) ((HVEC.out.modNil ha5).modNil ha6) (cells_at (wr.alloc (.cells #[.int .i64 0, .int .i64 0, .int .i64 0, .int .i64 0, .int .i64 0, .int .i64 0, .int .i64 0] 31)) 3 [.int .i64 x] 1 1 (wr.heap.size + 1) hw6s) rfl (by simp [Value.oneCell']) (by unfold maxLen; omega) (by omega)
        obtain ⟨p7, q7, rfl⟩ := hvec7.form
        have hmod7 := ((HMOD.out.thenNil ha5).thenNil ha6).new hm7 (fun j hj => hj.1)
        have hs7 := hm7.size
        have hs6 := ha6.size
        have HRUN7 := Lib.hid hrun7
        have HV7 := Lib.hid hvec7
        have HMD7 := Lib.hid hmod7
        clear hrun7 hvec7 hmod7 hm7
        go_wp2_with (first | (at_builtin; refine wpList_append_run rfl _ _ _ _ rfl rfl rfl HRUN7.out ?_))
        have hpk : ((idsOf l).take (k + 1)).filter (fun i => (tradeAt (pairsTo l l.length) i).isNone) = ((idsOf l).take k).filter (fun i => (tradeAt (pairsTo l l.length) i).isNone) ++ [x] := by rw [filter_take _ k (by have := HN.out; omega), HX.out]; simp [HAT.out]
        refine ⟨⟨k + 1, by omega, by go_num, ?_, HMD7.out⟩, by simp [intOf]; omega⟩
        rw [hpk, intsL_append, List.length_append, HPL.out]
        exact HV7.out.trim.mono (fun j _ hj => ⟨hj.1.elim (fun h => h.1) (fun h => by omega), hj.2⟩)
    · obtain rfl : k = n := by omega
      go_wp2_with fail
      go_ret
      rw [show (idsOf l).take k = idsOf l from by rw [← HN.out, List.take_length]] at hvec
      exact ⟨_, rfl, (hvec.mono (fun j _ hj => Nat.le_trans HM1.out.size hj.1)).row, HM1.out.thenNil hmod⟩
end Go.Proofs.Ytdpaklpaanojpaa

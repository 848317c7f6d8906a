/- cflref6.NewDisk. -/
import Derived.Test.YtjilbnpehgigjaaGreatRefCrash
namespace Go.Proofs.YtjilbnpehgigjaaGreat
open Go.RowKit

theorem info_string : (Tryz.prog.info? 9).map (fun i => (i.zero, i.size, i.bytes)) = some (some (.string ⟨#[]⟩), 1, 16) := by kernel_rfl
theorem refNew_bad (n : Int) (w : World) (h : n < 1 ∨ 8192 < n) :
    Calls Tryz.prog 17 #[.int .i64 n] w fun e w' => e = .returned (.tuple #[.pointer none, .int .i64 1]) ∧ w = w' := by
  have hc : n < 1 ∨ (1 ≤ n ∧ 8192 < n) := by omega
  rcases hc with h | ⟨h, h'⟩
  all_goals
    go_enter Tryz.func17, Tryz.ntmps17
    go_wp2
    go_ret2
    exact ⟨rfl, rfl⟩
def zeroText : Value := .string ⟨zeros64.toArray⟩
theorem strs_zero (k : Nat) : strs (List.replicate (k + 1) zeros64) = strs (List.replicate k zeros64) ++ [zeroText] := by
  simp [strs, List.replicate_succ', zeroText]
set_option maxRecDepth 100000 in
set_option maxHeartbeats 1000000 in
theorem refNew (n : Nat) (w : World) (h1 : 1 ≤ n) (h2 : n ≤ 8192) :
    Calls Tryz.prog 17 #[.int .i64 n] w fun e w' => ∃ b, e = .returned (.tuple #[.pointer (some ⟨b, 0, none⟩), .int .i64 0]) ∧ IsRefIn w' (fun k => w.heap.size ≤ k) b (freshDisk n) ∧ Mod nil w w' := by
  obtain ⟨i0, hi, hz0, hz1, hz2⟩ := info_parts info_string
  have hmk := make64
  have rb := rowText (IsRow.ofBlock (S := fun _ => True) (heap_alloc_new (w.alloc (.cells #[.slice none 0 0, .slice none 0 0, .slice none 0 0, .int .i64 (-1), .bool false] 60)) (.cells zeroCells64 5)) trivial 64 64 (by simp [bys_length, zeros64]))
  rw [show (w.alloc (.cells #[.slice none 0 0, .slice none 0 0, .slice none 0 0, .int .i64 (-1), .bool false] 60)).heap.size = w.heap.size + 1 from by simp] at rb
  have HI := Lib.hid (And.intro hi (And.intro hz0 (And.intro hz1 hz2)))
  clear hi hz0 hz1 hz2
  go_enter Tryz.func17, Tryz.ntmps17
  go_wp2_with fail
  clear rb hmk
  have hm0 : Mod nil w ((w.alloc (.cells #[.slice none 0 0, .slice none 0 0, .slice none 0 0, .int .i64 (-1), .bool false] 60)).alloc (.cells zeroCells64 5)) := ((Mod.refl nil w).alloc _).alloc _
  have ho0 : ((w.alloc (.cells #[.slice none 0 0, .slice none 0 0, .slice none 0 0, .int .i64 (-1), .bool false] 60)).alloc (.cells zeroCells64 5)).heap[w.heap.size]? = some (.cells #[.slice none 0 0, .slice none 0 0, .slice none 0 0, .int .i64 (-1), .bool false] 60 (0, 0)) := heap_alloc_old (heap_alloc_new _ _)
  have HM0 := Lib.hid hm0
  have HO0 := Lib.hid ho0
  clear hm0 ho0
  generalize (w.alloc (.cells #[.slice none 0 0, .slice none 0 0, .slice none 0 0, .int .i64 (-1), .bool false] 60)).alloc (.cells zeroCells64 5) = w1 at HM0 HO0 ⊢
  generalize hb : w.heap.size = b at HO0 ⊢
  have HB := Lib.hid hb
  clear hb
  go_loopw [6] (fun v wr => ∃ (k : Nat) (P1 P2 : Nat → Prop) (v1 v2 : Value), k ≤ n ∧ v = .int .i64 k ∧ wr.heap[b]? = some (.cells #[v1, v2, .slice none 0 0, .int .i64 (-1), .bool false] 60 (0, 0)) ∧ IsVec P1 wr 9 1 v1 k (strs (List.replicate k zeros64)) ∧ IsVec P2 wr 9 1 v2 k (strs (List.replicate k zeros64)) ∧
      (∀ j, P1 j → b < j ∧ j < wr.heap.size) ∧ (∀ j, P2 j → b < j ∧ j < wr.heap.size) ∧ (∀ j, P1 j → ¬ P2 j) ∧ Mod nil w wr) (fun v _ => n - (intOf v).toNat)
  case atStart => exact ⟨0, fun _ => False, fun _ => False, _, _, by omega, rfl, HO0.out, IsVec.nil _ _ _ _, IsVec.nil _ _ _ _, fun _ h => h.elim, fun _ h => h.elim, fun _ h => h.elim, HM0.out⟩
  case round =>
    obtain ⟨k, P1, P2, v1, v2, hk, rfl, hobj, hv1, hv2, hp1, hp2, hp12, hmod⟩ := hrel
    by_cases hlt : k < n
    · obtain ⟨p1, q1, rfl⟩ := hv1.form
      obtain ⟨p2, q2, rfl⟩ := hv2.form
      have hbw := heap_lt hobj
      have c0 : wr.cell? ⟨b, 0, none⟩ = some (.slice p1 k q1) := cell_of hobj 0
      have ha1 : Mod nil wr (wr.alloc (.cells #[zeroText] 9)) := (Mod.refl nil wr).alloc _
      have ho1 := ha1.keep hobj
      obtain ⟨v6, w6, hrun6, hvec6, hm6⟩ := vec_append (P := Tryz.prog) 57 57 9 i0 (.string ⟨#[]⟩) 1 16 Tryz.underlying57 HI.out.1 HI.out.2.1 HI.out.2.2.1 HI.out.2.2.2 rfl (by omega) (hv1.modNil ha1) (cells_one_at wr 9 zeroText _ rfl) rfl (by simp [Value.oneCell', zeroText]) (by unfold maxLen; omega) (by omega)
      have ho6 := (hm6.block b (heap_lt ho1) (fun h => by have := (hp1 _ h).1; omega)).trans ho1
      obtain ⟨p6, q6, rfl⟩ := hvec6.form
      have c06 : w6.cell? ⟨b, 0, none⟩ = some (.slice p1 k q1) := cell_of ho6 0
      have f06 : w6.frozen? ⟨b, 0, none⟩ = false := free_of ho6 0
      have ho7 := heap_setCell_same ho6 (off := 0) (.slice p6 (k + 1) q6)
      have m7 : Mod (· = b) w6 (w6.setCell ⟨b, 0, none⟩ (.slice p6 (k + 1) q6)) := (Mod.refl (· = b) w6).setCell ⟨b, 0, none⟩ _ (fun _ => rfl)
      have hv27 := ((hv2.modNil ha1).mod hm6 (fun j _ h h' => hp12 j h' h)).mod m7 (fun j _ h e => by have := (hp2 _ h).1; omega)
      have hv17 := hvec6.mod m7 (fun j hj h e => by
        rcases h with h | h
        · have := (hp1 _ h).1; omega
        · have := ha1.size; omega)
      have c17 : (w6.setCell ⟨b, 0, none⟩ (.slice p6 (k + 1) q6)).cell? ⟨b, 1, none⟩ = some (.slice p2 k q2) := by rw [cell_of ho7]; rfl
      have hmod7 := ((hmod.thenNil ha1).new hm6 (fun j h => by have := (hp1 _ h).1; have := HB.out; omega)).new m7 (fun j h => by have := HB.out; omega)
      have hs7 : wr.heap.size < (w6.setCell ⟨b, 0, none⟩ (.slice p6 (k + 1) q6)).heap.size := by
        have h1 := hm6.size
        have h2 := m7.size
        simp at h1
        omega
      have ha1s : wr.heap.size ≤ (wr.alloc (.cells #[zeroText] 9)).heap.size := ha1.size
      have hw7s : (w6.setCell ⟨b, 0, none⟩ (.slice p6 (k + 1) q6)).heap.size = w6.heap.size := by simp
      generalize hw7 : w6.setCell ⟨b, 0, none⟩ (.slice p6 (k + 1) q6) = w7 at *
      have HW7 := Lib.hid hw7
      have ha8 : Mod nil w7 (w7.alloc (.cells #[zeroText] 9)) := (Mod.refl nil w7).alloc _
      have ho8 := ha8.keep ho7
      obtain ⟨v9, w9, hrun9, hvec9, hm9⟩ := vec_append (P := Tryz.prog) 57 57 9 i0 (.string ⟨#[]⟩) 1 16 Tryz.underlying57 HI.out.1 HI.out.2.1 HI.out.2.2.1 HI.out.2.2.2 rfl (by omega) (hv27.modNil ha8) (cells_one_at w7 9 zeroText w6.heap.size hw7s) rfl (by simp [Value.oneCell', zeroText]) (by unfold maxLen; omega) (by omega)
      have ho9 := (hm9.block b (heap_lt ho8) (fun h => by have := (hp2 _ h).1; omega)).trans ho8
      obtain ⟨p9, q9, rfl⟩ := hvec9.form
      have c19 : w9.cell? ⟨b, 1, none⟩ = some (.slice p2 k q2) := by rw [cell_of ho9]; rfl
      have f19 : w9.frozen? ⟨b, 1, none⟩ = false := free_of ho9 1
      have ho10 := heap_setCell_same ho9 (off := 1) (.slice p9 (k + 1) q9)
      have m10 : Mod (· = b) w9 (w9.setCell ⟨b, 1, none⟩ (.slice p9 (k + 1) q9)) := (Mod.refl (· = b) w9).setCell ⟨b, 1, none⟩ _ (fun _ => rfl)
      have h8s : w7.heap.size ≤ (w7.alloc (.cells #[zeroText] 9)).heap.size := ha8.size
      have hv110 := ((hv17.trim.modNil ha8).mod hm9 (fun j _ h h' => by
        rcases h.1 with h1 | h1
        · exact hp12 j h1 h'
        · have := (hp2 _ h').2; omega)).mod m10 (fun j _ h e => by
        rcases h.1 with h1 | h1
        · have := (hp1 _ h1).1; omega
        · omega)
      have hv210 := hvec9.mod m10 (fun j _ h e => by
        rcases h with h | h
        · have := (hp2 _ h).1; omega
        · omega)
      have hmod10 := ((hmod7.thenNil ha8).new hm9 (fun j h => by have := (hp2 _ h).1; have := HB.out; omega)).new m10 (fun j h => by have := HB.out; omega)
      have hs10 : w7.heap.size ≤ (w9.setCell ⟨b, 1, none⟩ (.slice p9 (k + 1) q9)).heap.size := by
        have h1 := hm9.size
        have h2 := m10.size
        omega
      have hfin : ∃ P1' P2' : Nat → Prop, IsVec P1' (w9.setCell ⟨b, 1, none⟩ (.slice p9 (k + 1) q9)) 9 1 (.slice p6 (k + 1) q6) (k + 1) (strs (List.replicate (k + 1) zeros64)) ∧ IsVec P2' (w9.setCell ⟨b, 1, none⟩ (.slice p9 (k + 1) q9)) 9 1 (.slice p9 (k + 1) q9) (k + 1) (strs (List.replicate (k + 1) zeros64)) ∧
          (∀ j, P1' j → b < j ∧ j < (w9.setCell ⟨b, 1, none⟩ (.slice p9 (k + 1) q9)).heap.size) ∧ (∀ j, P2' j → b < j ∧ j < (w9.setCell ⟨b, 1, none⟩ (.slice p9 (k + 1) q9)).heap.size) ∧ (∀ j, P1' j → ¬ P2' j) := by
        rw [strs_zero]
        refine ⟨_, _, hv110, hv210.trim, fun j h => ?_, fun j h => ⟨?_, h.2⟩, fun j h h' => ?_⟩
        · obtain ⟨h, hl⟩ := h
          refine ⟨?_, by omega⟩
          rcases h with h | h
          · exact (hp1 _ h).1
          · omega
        · rcases h.1 with h | h
          · exact (hp2 _ h).1
          · omega
        · rcases h'.1 with h' | h'
          · rcases h.1 with h1 | h1
            · exact hp12 j h1 h'
            · have := (hp2 _ h').2; omega
          · have := h.2; omega
      have HFIN := Lib.hid hfin
      have HRUN6 := Lib.hid hrun6
      have HRUN9 := Lib.hid hrun9
      have HO10 := Lib.hid ho10
      have HMOD10 := Lib.hid hmod10
      clear hfin hrun6 hrun9 ho10 hmod10 ho7 hv27 hv17 hmod7 hp1 hp2 hp12 hvec6 hm6 ho6 ho1 ha1 hobj hv1 hv2 hmod m7 hvec9 hm9 ho9 ho8 ha8 m10 hv110 hv210 hw7s hs10 h8s
      rw [← hw7] at c17 HRUN9
      clear hw7
      go_wp2_with (first | (at_builtin; refine wpList_append_run rfl _ _ _ _ rfl rfl rfl HRUN6.out ?_) | (at_builtin; refine wpList_append_run rfl _ _ _ _ rfl rfl rfl HRUN9.out ?_))
      obtain ⟨P1', P2', a1, a2, a3, a4, a5⟩ := HFIN.out
      exact ⟨⟨k + 1, P1', P2', _, _, by omega, by go_num, HO10.out, a1, a2, a3, a4, a5, HMOD10.out⟩, by simp [intOf]; omega⟩
    · obtain rfl : k = n := by omega
      go_wp2_with fail
      go_ret2
      have hb := HB.out
      refine ⟨b, rfl, ⟨P1, P2, fun _ => False, v1, v2, .slice none 0 0, ?_, by omega, fun j h => ?_⟩, hmod⟩
      · have hl : (freshDisk k).lasts.length = k := by simp [freshDisk]
        exact { obj := hobj
                now := by rw [hl, show (freshDisk k).curs = List.replicate k zeros64 from curs_none _ _ _]; exact hv1
                last := by rw [hl]; exact hv2
                pend := by simpa [DS.dirt, asc, freshDisk] using IsVec.nil (fun _ => False) wr 3 1
                p1 := fun h => by have := (hp1 _ h).1; omega
                p2 := fun h => by have := (hp2 _ h).1; omega
                p3 := id, p12 := hp12, p13 := fun _ _ => id, p23 := fun _ _ => id
                fz := by simp [freshDisk], keys := by simp [freshDisk], room := by rw [hl]; exact h2, nodup := by simp [freshDisk] }
      · rcases h with h | h | h
        · have := (hp1 _ h).1; omega
        · have := (hp2 _ h).1; omega
        · exact h.elim
end Go.Proofs.YtjilbnpehgigjaaGreat

/- The walks over what the statements of package disk use of their own: cflref.Bytes, cfllaw6.text, cfllaw6.first. -/
import Derived.Test.YtgfehfkcjgfekaaDiskC
import Derived.Laws.IdiomStrings
import Derived.Lib.BufferRead
namespace Go.Proofs.Ytgfehfkcjgfekaa
open Go.RowKit

/-- a row of bytes as a text -/
theorem rowText {T : Nat → Prop} {w : World} {v : Value} {l : List UInt8} (h : IsRow T w v (bys l)) :
    (convert 22 9 v).run Try.prog w = .ok (.string ⟨l.toArray⟩) w := by
  obtain ⟨p, c, rfl, hc⟩ := h
  rw [bys_length] at *
  cases p with
  | none =>
    have h0 : l = [] := by
      rcases l with _ | ⟨a, l⟩
      · rfl
      · obtain ⟨b, off, h1, _⟩ := hc 0 (by simp); cases h1
    subst h0
    exact Lib.run_convert_nil_bytes w _ _ 5 c Try.underlying22 Try.underlying5 Try.underlying9
  | some a =>
    refine run_convert_bytes_back w _ _ 5 a c l Try.underlying22 Try.underlying5 Try.underlying9 (fun j hj => ?_)
    obtain ⟨b, off, h1, _, _, h2⟩ := hc j hj
    simp only [Option.some.injEq] at h1
    subst h1
    have e : (⟨b, off, none⟩ : Addr).add j = ⟨b, off + j, none⟩ := by unfold Addr.add; split <;> simp_all
    rw [e, h2, bys_getD _ _ hj]
    simp [hj]
theorem refBytes (S T : Nat → Prop) (va vb : Value) (la lb : List UInt8) (w : World) (ha : IsRow S w va (bys la)) (hb : IsRow T w vb (bys lb)) :
    Calls Try.prog 13 #[va, vb] w fun e w' => e = .returned (.bool (decide (la = lb))) ∧ Mod nil w w' := by
  have ra := rowText (ha.modNil (Mod.refl nil w))
  have rb := rowText (hb.modNil (Mod.refl nil w))
  obtain ⟨pa, ca, rfl, _⟩ := ha
  obtain ⟨pb, cb, rfl, _⟩ := hb
  go_enter Try.func13, Try.ntmps13
  go_wp2_with fail
  go_ret
  exact ⟨congrArg Ending.returned (congrArg Value.bool (show (la == lb) = decide (la = lb) from by rw [Bool.eq_iff_iff]; simp)), Mod.refl _ _⟩
set_option maxHeartbeats 1000000 in
theorem diskFirst (w : World) : Calls Try.prog 8 #[] w fun e w' => e = .returned (.bool true) ∧ Mod nil w w' := by
  have hmk := make64
  go_enter Try.func8, Try.ntmps8
  go_wp2_with fail
  refine (diskNew 2 w (by omega) (by omega)).mono ?_
  rintro e w1 ⟨b, bl, bm, C, rfl, hd1, hfoot, hm1⟩
  go_wp2_with fail
  refine (diskFuse b bl bm C _ 0 w1 hd1 (by omega)).mono ?_
  rintro e w2 ⟨rfl, hd2, hm2⟩
  go_wp2_with fail
  have hrow : IsRow (fun k => w2.heap.size ≤ k) (w2.alloc (.cells zeroCells64 5)) (.slice (some ⟨w2.heap.size, 0, none⟩) 64 64) (bys zeros64) :=
    IsRow.ofBlock (heap_alloc_new w2 (.cells zeroCells64 5)) (Nat.le_refl _) 64 64 (by simp [bys_length, zeros64])
  have hb2 : b < w2.heap.size := heap_lt hd2.obj
  refine (diskWrite b bl bm C _ _ 0 _ zeros64 _ (hd2.modNil ((Mod.refl nil w2).alloc _)) hrow (by omega) (by simp [zeros64])).mono ?_
  rw [show DS.write _ 0 zeros64 = ({ freshDisk 2 with fuse := 0, down := true }, 13) from rfl]
  rintro e w3 ⟨C3, rfl, hd3, hC3, hm3⟩
  clear hmk
  go_wp2_with fail
  refine (diskDown b bl bm C3 _ w3 hd3).mono ?_
  rintro e w4 ⟨rfl, rfl⟩
  go_wp2_with fail
  refine (diskLen b bl bm C3 _ w3 hd3).mono ?_
  rw [show ((freshDisk 2).lasts.length : Int) = 2 from rfl]
  rintro e w5 ⟨rfl, rfl⟩
  go_wp2_with fail
  go_ret
  have h1 := hfoot b (.inl rfl)
  have h2 := hfoot bm (.inr (.inr (.inl rfl)))
  exact ⟨rfl, ((hm1.new hm2 (fun i hi => by omega)).alloc _).new hm3 (fun i hi => by omega)⟩
def textOf (b : UInt8) (m : Nat) : List UInt8 := (List.range m).map (fun i => b + UInt8.ofNat i)
theorem textOf_length (b : UInt8) (m : Nat) : (textOf b m).length = m := by simp [textOf]
/-- k bytes laid, the rest 0 -/
def textTo (b : UInt8) (m k : Nat) : List UInt8 := (List.range m).map (fun i => if i < k then b + UInt8.ofNat i else 0)
set_option maxHeartbeats 1000000 in
theorem lawText (x y N : Int) (b : UInt8) (kv : Value) (w : World) (hN : -9223372036854775808 ≤ N ∧ N ≤ 9223372036854775807) :
    Calls Try.prog 10 #[.agg #[.int .i64 x, .int .i64 y, .int .i64 N, .int .u8 b.toNat, kv]] w fun e w' => ∃ g, e = .returned (.slice (some ⟨g, 0, none⟩) (min (max N 0) 100).toNat (min (max N 0) 100).toNat) ∧ w.heap.size ≤ g ∧ w'.heap[g]? = some (.cells (bys (textOf b (min (max N 0) 100).toNat)).toArray 5 (0, 0)) ∧ Mod nil w w' := by
  obtain ⟨m, hm⟩ : ∃ m : Nat, min (max N 0) 100 = (m : Int) := ⟨(min (max N 0) 100).toNat, by omega⟩
  have hm100 : m ≤ 100 := by omega
  obtain ⟨i0, hi, hz0, hz1, hz2⟩ := info_parts info_u8
  have hmk := run_make_one (P := Try.prog) 22 5 i0 (.int .u8 0) 1 Try.underlying22 hi hz0 hz1 hz2 rfl m (by omega) (by unfold maxLen; omega)
  rw [show (min (max N 0) 100).toNat = m by omega]
  clear hi hz0 hz1 hz2
  go_enter Try.func10, Try.ntmps10
  go_wp2_with fail
  have hm0 : Mod nil w ((w.alloc (.cells #[.int .i64 x, .int .i64 y, .int .i64 N, .int .u8 b.toNat, kv] 31)).alloc (.cells (Array.replicate m (.int .u8 0)) 5)) := ((Mod.refl nil w).alloc _).alloc _
  have ho0 : ((w.alloc (.cells #[.int .i64 x, .int .i64 y, .int .i64 N, .int .u8 b.toNat, kv] 31)).alloc (.cells (Array.replicate m (.int .u8 0)) 5)).heap[w.heap.size]? = some (.cells #[.int .i64 x, .int .i64 y, .int .i64 N, .int .u8 b.toNat, kv] 31 (0, 0)) := heap_alloc_old (heap_alloc_new _ _)
  have hv0 : ((w.alloc (.cells #[.int .i64 x, .int .i64 y, .int .i64 N, .int .u8 b.toNat, kv] 31)).alloc (.cells (Array.replicate m (.int .u8 0)) 5)).heap[w.heap.size + 1]? = some (.cells (bys (textTo b m 0)).toArray 5 (0, 0)) := by
    have h := heap_alloc_new (w.alloc (.cells #[.int .i64 x, .int .i64 y, .int .i64 N, .int .u8 b.toNat, kv] 31)) (.cells (Array.replicate m (.int .u8 0)) 5)
    rw [show (w.alloc (.cells #[.int .i64 x, .int .i64 y, .int .i64 N, .int .u8 b.toNat, kv] 31)).heap.size = w.heap.size + 1 from by simp] at h
    rw [h]
    congr 2
    apply Array.toList_inj.1
    simp [textTo, bys]
    exact (List.map_const' ..).symm ▸ by simp
  have HM := Lib.hid hm0
  have HO := Lib.hid ho0
  have HV := Lib.hid hv0
  clear hm0 ho0 hv0 hmk
  generalize ((w.alloc (.cells #[.int .i64 x, .int .i64 y, .int .i64 N, .int .u8 b.toNat, kv] 31)).alloc (.cells (Array.replicate m (.int .u8 0)) 5)) = w2 at HM HO HV ⊢
  generalize ho : w.heap.size = o at HO HV ⊢
  have HS := Lib.hid ho
  clear ho
  go_loopw [4] (fun v wr => ∃ k : Nat, k ≤ m ∧ v = .int .i64 k ∧ wr.heap[o]? = some (.cells #[.int .i64 x, .int .i64 y, .int .i64 N, .int .u8 b.toNat, kv] 31 (0, 0)) ∧ wr.heap[o + 1]? = some (.cells (bys (textTo b m k)).toArray 5 (0, 0)) ∧ Mod nil w wr) (fun v _ => m - (intOf v).toNat)
  case atStart => exact ⟨0, by omega, rfl, HO.out, HV.out, HM.out⟩
  case round =>
    obtain ⟨k, hk, rfl, ho, hv, hmod⟩ := hrel
    have HO := Lib.hid ho
    have HV := Lib.hid hv
    by_cases hlt : k < m
    · have c3 : wr.cell? ⟨o, 3, none⟩ = some (.int .u8 b.toNat) := cell_of ho 3
      have ck : wr.cell? ⟨o + 1, k, none⟩ = some ((bys (textTo b m k)).getD k undef) := by
        rw [cell_of hv]; simp [bys, textTo, hlt]
      have fk : wr.frozen? ⟨o + 1, k, none⟩ = false := free_of hv k
      clear ho hv
      go_wp2_with fail
      have hoo := HS.out
      have ms : Mod (· = o + 1) wr (wr.setCell ⟨o + 1, k, none⟩ (.int .u8 (((b.toNat : Int) + k) % 256))) := (Mod.refl (· = o + 1) wr).setCell ⟨o + 1, k, none⟩ _ (fun _ => rfl)
      refine ⟨⟨k + 1, by omega, by go_num, (ms.ne o (heap_lt HO.out) (by omega)).trans HO.out, ?_, hmod.new ms (fun i hi => by omega)⟩, by simp [intOf]; omega⟩
      rw [heap_setCell_same HV.out]
      congr 2
      apply Array.toList_inj.1
      have hval : (((b.toNat : Int) + k) % 256) = ((b + UInt8.ofNat k).toNat : Nat) := by
        rw [UInt8.toNat_add, UInt8.toNat_ofNat']
        omega
      rw [hval]
      apply List.ext_getElem?
      intro i
      simp only [bys, textTo, List.setIfInBounds_toArray, List.getElem?_set, List.length_map, List.length_range, List.getElem?_map, List.getElem?_range]
      by_cases hik : k = i
      · subst hik; simp [hlt]
      · rw [if_neg hik]
        by_cases him : i < m
        · simp [him, show (i < k) ↔ (i < k + 1) by omega]
        · simp [him]
    · obtain rfl : k = m := by omega
      clear ho hv
      go_wp2_with fail
      go_ret
      have hv := HV.out
      rw [show textTo b k k = textOf b k from by unfold textTo textOf; exact List.map_congr_left (fun i hi => by rw [if_pos (List.mem_range.1 hi)])] at hv
      exact ⟨o + 1, rfl, by have := HS.out; omega, hv, hmod⟩
end Go.Proofs.Ytgfehfkcjgfekaa

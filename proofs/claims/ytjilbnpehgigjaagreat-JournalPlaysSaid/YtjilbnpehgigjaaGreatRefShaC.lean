/- cflref1: Put, Hash; cflref.CopyBytes. The document's hash is shaOf. -/
import Derived.Test.YtjilbnpehgigjaaGreatRefShaB
namespace Go.Proofs.YtjilbnpehgigjaaGreat
open Go.RowKit

-- the plain law: the text with all that is put behind it is taken block by block
theorem mixK_prefix (A B : List UInt8) (v : V8) (q : Nat) (h : 64 * q ≤ A.length) : mixK (A ++ B) v q = mixK A v q := by
  induction q with
  | zero => rfl
  | succ q ih =>
    rw [mixK, mixK, ih (by omega), List.drop_append_of_le_length (by omega), List.take_append_of_le_length (by rw [List.length_drop]; omega)]
theorem mixK_append (A B : List UInt8) (v : V8) (q k : Nat) (h : A.length = 64 * q) : mixK (A ++ B) v (q + k) = mixK B (mixK A v q) k := by
  induction k with
  | zero => exact mixK_prefix A B v q (by omega)
  | succ k ih =>
    rw [← Nat.add_assoc, mixK, mixK, ih, show 64 * (q + k) = A.length + 64 * k by omega, List.drop_length_add_append]
def allOf (m : List UInt8) : List UInt8 := (m ++ [0x80] ++ List.replicate (padZ m.length) 0) ++ layC (8 * m.length) 8 8
theorem padZ_mod (n q : Nat) : padZ (n - 64 * q) = padZ n ∨ n < 64 * q := by
  by_cases h : n < 64 * q
  · exact .inr h
  · left; unfold padZ; omega
theorem allOf_length (m : List UInt8) : (allOf m).length = 64 * ((m.length + 9 + padZ m.length) / 64) := (padded_length m m.length).1
theorem shaOf_eq (m : List UInt8) : shaOf m = outTo (mixK (allOf m) hV ((m.length + 9 + padZ m.length) / 64)) 8 := by
  obtain ⟨q, hq⟩ : ∃ q, m.length / 64 = q := ⟨_, rfl⟩
  have hA : (m.take (64 * q)).length = 64 * q := by rw [List.length_take]; omega
  have hr : (m.drop (64 * q)).length = m.length - 64 * q := List.length_drop
  have hp : padZ (m.drop (64 * q)).length = padZ m.length := by
    rw [hr]; rcases padZ_mod m.length q with h | h
    · exact h
    · omega
  have hall : allOf m = m.take (64 * q) ++ padded (m.drop (64 * q)) m.length := by
    unfold allOf padded
    rw [hp, ← List.append_assoc, ← List.append_assoc, ← List.append_assoc, List.take_append_drop]
  have hk : (m.length + 9 + padZ m.length) / 64 = q + ((m.drop (64 * q)).length + 9 + padZ (m.drop (64 * q)).length) / 64 := by rw [hp, hr]; omega
  have hm : mixK m hV q = mixK (m.take (64 * q)) hV q := by
    have := mixK_prefix (m.take (64 * q)) (m.drop (64 * q)) hV q (by omega)
    rwa [List.take_append_drop] at this
  unfold shaOf sumOf
  rw [hq, hall, hk, mixK_append _ _ _ _ _ hA, hm]

theorem refCopyBytes (T : Nat → Prop) (v : Value) (l : List UInt8) (w : World) (h : IsRow T w v (bys l)) (hl : l.length ≤ 140737488355328) :
    Calls Tryz.prog 45 #[v] w fun e w' => ∃ v', e = .returned v' ∧ IsVec (fun k => w.heap.size ≤ k) w' 5 1 v' l.length (bys l) ∧ Mod nil w w' := by
  have hv := vec_empty w 5 1
  have hx := h.modNil ((Mod.refl nil w).alloc (.cells #[] 5))
  obtain ⟨v', w', hrun, hvec, hmod⟩ := bytes_append (l := []) 22 hv hx (by simpa using hl)
  rw [List.nil_append] at hvec
  obtain ⟨p, c, rfl, hc⟩ := h
  rw [bys_length] at *
  have HR := Lib.hid hrun
  clear hrun hv hx
  go_enter Tryz.func45, Tryz.ntmps45
  go_wp2_with (at_builtin; refine wpList_append_run rfl _ _ _ _ rfl rfl rfl HR.out ?_)
  go_ret
  exact ⟨_, rfl, hvec.mono (fun k _ hk => by rcases hk with hk | hk; exact hk; simp at hk; omega), ((Mod.refl nil w).alloc _).new hmod (fun _ h => h)⟩
set_option maxHeartbeats 1000000 in
theorem refPut (n : Nat) (hn : n < 9223372036854775808) (w : World) : Calls Tryz.prog 83 #[.int .i64 n, .int .i64 8] w fun e w' => ∃ v', e = .returned v' ∧ IsVec (fun k => w.heap.size ≤ k) w' 5 1 v' 8 (bys (layC n 8 8)) ∧ Mod nil w w' := by
  go_enter Tryz.func83, Tryz.ntmps83
  go_wp2_with fail
  go_loopw [5, 6] (fun v5 v6 wr => ∃ (c : Nat) (x : Int), c ≤ 8 ∧ v6 = .int .i64 x ∧ x = 7 - (c : Int) ∧ Hid (IsVec (fun k => w.heap.size ≤ k) wr 5 1 v5 c (bys (layC n 8 c))) ∧ Hid (Mod nil w wr)) (fun _ v _ => (intOf v + 1).toNat)
  case atStart => exact ⟨0, _, by omega, rfl, by omega, Lib.hid (IsVec.nil _ _ _ _), Lib.hid (Mod.refl _ _)⟩
  case round =>
    obtain ⟨c, x, hc, rfl, hx, HVC, HMC⟩ := hrel
    by_cases hlt : c < 8
    · obtain ⟨k, rfl⟩ : ∃ k : Nat, x = k := ⟨7 - c, by omega⟩
      have hk : 8 - 1 - c = k := by omega
      have hvc := HVC.out
      have hnext : layC n 8 (c + 1) = layC n 8 c ++ [byteAt n k] := by rw [layC_succ, hk]
      have hb := byteAt_nat n k
      have hbi : ((n / 2 ^ (8 * k) % 256 : Nat) : Int) = (n : Int) / 2 ^ (8 * k) % 256 := by simp
      rw [hbi] at hb
      have hk8 : k < 8 := by omega
      have hx0 : 0 ≤ 7 - (c : Int) := by omega
      have hm0 : Mod nil wr (wr.alloc (.cells #[.int .u8 (byteAt n k).toNat] 5)) := (Mod.refl nil wr).alloc _
      obtain ⟨v7, w7, hrun, hvec, hmod⟩ := bytes_append (l := layC n 8 c) (m := [byteAt n k]) 22 (by rw [layC_length]; exact hvc.modNil hm0) (row_one (byteAt n k) _ rfl) (by rw [layC_length]; simp; omega)
      rw [← hnext, layC_length] at hvec
      obtain ⟨p7, c7, rfl⟩ := hvec.form
      rw [hb] at hrun
      have HRUN := Lib.hid hrun
      have HVEC := Lib.hid (hvec.mono (T := fun k => w.heap.size ≤ k) (fun j _ h => h.elim id (fun h => by have := HMC.out.size; have := hm0.size; omega)))
      have HMOD : Hid (Mod nil w w7) := Lib.hid ((HMC.out.thenNil hm0).new hmod (fun _ h => h))
      obtain ⟨pv, cv, rfl⟩ := hvc.form
      clear hvc hnext hb hbi hm0 hrun hvec hmod
      have HX := Lib.hid hx
      have HK := Lib.hid hk
      clear hx hk
      go_wp2_with (first | (at_builtin; refine wpList_append_run rfl _ _ _ _ rfl rfl rfl HRUN.out ?_))
      exact ⟨⟨c + 1, _, by omega, rfl, by have := HX.out; omega, HVEC, HMOD⟩, by simp [intOf] <;> omega⟩
    · obtain rfl : c = 8 := by omega
      obtain rfl : x = -1 := by omega
      obtain ⟨pv, cv, rfl⟩ := HVC.out.form
      go_wp2_with fail
      go_ret
      exact ⟨_, rfl, HVC.out, HMC.out⟩
end Go.Proofs.YtjilbnpehgigjaaGreat

/- Bytes: rows of them, slices.Clone, the comparison of two by their texts. -/
import Derived.Test.YtdfahddpkkeldaaGreatChecked
import Derived.Lib.SliceRun
import Derived.Test.YtdfahddpkkeldaaGreatVec
import Derived.Test.YtdfahddpkkeldaaGreatShort
namespace Go.Proofs.YtdfahddpkkeldaaGreat
open Go.RowKit
def bys (l : List UInt8) : List Value := l.map (fun b => Value.int .u8 b.toNat)
theorem bys_length (l : List UInt8) : (bys l).length = l.length := by simp [bys]
theorem bys_getD (l : List UInt8) (i : Nat) (h : i < l.length) : (bys l).getD i undef = .int .u8 (l.getD i 0).toNat := by simp [bys, h]
theorem bys_one (l : List UInt8) : ∀ u ∈ bys l, u.oneCell' = true := by
 intro u hu
 obtain ⟨b, _, rfl⟩ := List.mem_map.1 hu
 rfl
theorem bys_append (l m : List UInt8) : bys (l ++ m) = bys l ++ bys m := by simp [bys]
/-- a new block with no cells is an empty vector -/
theorem vec_empty (w : World) (E : TypeId) (sz : Nat) : IsVec (fun k => w.heap.size ≤ k) (w.alloc (.cells #[] E)) E sz (.slice (some ⟨w.heap.size, 0, none⟩) 0 0) 0 [] :=
 ⟨⟨by simp, .inr ⟨w.heap.size, 0, #[], rfl, Nat.zero_le _, heap_alloc_new _ _, Nat.le_refl _, by simp, by simp, by simp⟩⟩, fun k hk => by simp [Value.ownBlock] at hk; omega⟩
theorem info_u8 : (Tryz.prog.info? 5).map (fun i => (i.zero, i.size, i.bytes)) = some (some (.int .u8 0), 1, 1) := by kernel_rfl
/-- append to a byte slice of the program's own -/
theorem bytes_append {S T : Nat → Prop} {w : World} (ty : TypeId) {v x : Value} {l m : List UInt8} (hv : IsVec S w 5 1 v l.length (bys l)) (hx : IsRow T w x (bys m)) (hb : l.length + m.length ≤ 140737488355328) :
  ∃ v' w', (Builtin.append_ #[40, 40] ty #[v, x]).run Tryz.prog w = .ok v' w' ∧ IsVec (fun k => S k ∨ w.heap.size ≤ k) w' 5 1 v' (l ++ m).length (bys (l ++ m)) ∧ Mod S w w' := by
 obtain ⟨i0, hi, hz0, hz1, hz2⟩ := info_parts info_u8
 have hx' := hx.cells
 rw [bys_length] at hx'
 obtain ⟨v', w', h1, h2, h3⟩ := vec_append (P := Tryz.prog) 40 ty 5 i0 (.int .u8 0) 1 1 Tryz.underlying40 hi hz0 hz1 hz2 rfl (by omega) hv hx' (by simp [bys_length]) (bys_one m) (by unfold maxLen; omega) (by omega)
 exact ⟨v', w', h1, by rw [bys_append, List.length_append]; exact h2, h3⟩
theorem cloneBytes (T : Nat → Prop) (v : Value) (l : List UInt8) (w : World) (h : IsRow T w v (bys l)) (hl : l.length ≤ 140737488355328) :
  Calls Tryz.prog 43 #[v] w fun e w' => ∃ v', e = .returned v' ∧ IsVec (fun k => w.heap.size ≤ k) w' 5 1 v' l.length (bys l) ∧ Mod nil w w' := by
 obtain ⟨p, c, rfl, hc⟩ := id h
 rw [bys_length] at *
 have heq := Lib.run_eql_slice_nil (P := Tryz.prog) w 40 5 p l.length c 0 0 Tryz.underlying40
 cases p with
 | none =>
  have h0 : l = [] := by
   rcases l with _ | ⟨a, l⟩
   ·rfl
   ·obtain ⟨b, off, h1, _⟩ := hc 0 (by simp); cases h1
  subst h0
  clear hl hc h
  simp only [List.length_nil, Option.isNone_none] at heq
  go_enter Tryz.func43, Tryz.ntmps43
  go_wp2
  go_ret
  exact ⟨_, rfl, IsVec.nil _ _ _ _, Mod.refl _ _⟩
 | some a =>
  have hv := vec_empty w 5 1
  have hx := h.modNil ((Mod.refl nil w).alloc (.cells #[] 5))
  obtain ⟨v', w', hrun, hvec, hmod⟩ := bytes_append (l := []) 40 hv hx (by simpa using hl)
  simp only [List.nil_append] at hvec
  clear hv hx h hl hc
  simp only [Option.isNone_some] at heq
  have HR := Lib.hid hrun
  clear hrun
  go_enter Tryz.func43, Tryz.ntmps43
  go_wp2_with (at_builtin; refine wpList_append_run rfl _ _ _ _ rfl rfl rfl HR.out ?_)
  go_ret
  exact ⟨_, rfl, hvec.mono (fun k _ hk => by rcases hk with hk | hk; exact hk; simp at hk; omega), ((Mod.refl nil w).alloc _).new hmod (fun _ h => h)⟩
end Go.Proofs.YtdfahddpkkeldaaGreat

/- Package sha: a number's bytes are laid. -/
namespace Go.Proofs.YtdfahddpkkeldaaGreat
open Go.RowKit
def byteAt (n k : Nat) : UInt8 := UInt8.ofNat (n / 2 ^ (8 * k))
/-- the first c bytes of so many -/
def layC (n size c : Nat) : List UInt8 := (List.range c).map (fun j => byteAt n (size - 1 - j))
theorem layC_succ (n size c : Nat) : layC n size (c + 1) = layC n size c ++ [byteAt n (size - 1 - c)] := by simp [layC, List.range_succ]
theorem layC_length (n size c : Nat) : (layC n size c).length = c := by simp [layC]
theorem byteAt_nat (n k : Nat) : ((byteAt n k).toNat : Int) = ((n / 2 ^ (8 * k) % 256 : Nat) : Int) := by simp [byteAt]
theorem row_one {w : World} (b : UInt8) (g : Nat) (hg : w.heap.size = g) : IsRow (· = g) (w.alloc (.cells #[.int .u8 b.toNat] 5)) (.slice (some ⟨g, 0, none⟩) 1 1) (bys [b]) := by
 subst hg
 have h : (w.alloc (.cells #[.int .u8 b.toNat] 5)).heap[w.heap.size]? = some (.cells (bys [b]).toArray 5 (0, 0)) := heap_alloc_new w _
 exact IsRow.ofBlock (S := (· = w.heap.size)) h rfl 1 1 rfl
set_option maxRecDepth 100000 in
set_option maxHeartbeats 1000000 in
theorem shaLays (S : Nat → Prop) (v : Value) (l : List UInt8) (n size : Nat) (w : World) (hv : IsVec S w 5 1 v l.length (bys l)) (_hn : n < 18446744073709551616) (hs : size ≤ 8) (hl : l.length ≤ 1099511627776) :
  Calls Tryz.prog 123 #[v, .int .u64 n, .int .i64 size] w fun e w' => ∃ v', e = .returned v' ∧ IsVec (fun k => S k ∨ w.heap.size ≤ k) w' 5 1 v' (l ++ layC n size size).length (bys (l ++ layC n size size)) ∧ Mod S w w' := by
 have HV := Lib.hid hv
 clear hv
 go_enter Tryz.func123, Tryz.ntmps123
 go_wp2_with fail
 go_loopw [0, 7] (fun v0 v7 wr => ∃ (c : Nat) (x : Int), c ≤ size ∧ v7 = .int .i64 x ∧ x = (size : Int) - 1 - c ∧ Hid (IsVec (fun k => S k ∨ w.heap.size ≤ k) wr 5 1 v0 (l ++ layC n size c).length (bys (l ++ layC n size c))) ∧ Hid (Mod S w wr)) (fun _ v _ => (intOf v + 1).toNat)
 case atStart => exact ⟨0, _, by omega, rfl, by omega, Lib.hid (by simpa [layC] using HV.out.mono (fun _ _ h => .inl h)), Lib.hid (Mod.refl _ _)⟩
 case round =>
  obtain ⟨c, x, hc, rfl, hx, HVC, HMC⟩ := hrel
  by_cases hlt : c < size
  ·obtain ⟨k, rfl⟩ : ∃ k : Nat, x = k := ⟨size - 1 - c, by omega⟩
   have hk : size - 1 - c = k := by omega
   have hvc := HVC.out
   obtain ⟨N, hN⟩ : ∃ N, (l ++ layC n size c).length = N := ⟨_, rfl⟩
   have hNl : N ≤ 1099511627784 := by rw [← hN, List.length_append, layC_length]; omega
   have hnext : l ++ layC n size (c + 1) = (l ++ layC n size c) ++ [byteAt n k] := by rw [layC_succ, hk, List.append_assoc]
   have hb := byteAt_nat n k
   have hbi : ((n / 2 ^ (8 * k) % 256 : Nat) : Int) = (n : Int) / 2 ^ (8 * k) % 256 := by simp
   rw [hbi] at hb
   have hk8 : k < 8 := by omega
   have hx0 : 0 ≤ (size : Int) - 1 - (c : Int) := by omega
   have hm0 : Mod nil wr (wr.alloc (.cells #[.int .u8 (byteAt n k).toNat] 5)) := (Mod.refl nil wr).alloc _
   obtain ⟨v7, w7, hrun, hvec, hmod⟩ := bytes_append (l := l ++ layC n size c) (m := [byteAt n k]) 40 (hvc.modNil hm0) (row_one (byteAt n k) _ rfl) (by rw [hN]; simp; omega)
   have hlen : (l ++ layC n size (c + 1)).length = N + 1 := by rw [hnext, List.length_append, hN]; rfl
   rw [← hnext, hlen] at hvec
   obtain ⟨p7, c7, rfl⟩ := hvec.form
   rw [hb] at hrun
   have HLEN := Lib.hid hlen
   clear hlen
   have HRUN := Lib.hid hrun
   have HVEC := Lib.hid (hvec.mono (T := fun k => S k ∨ w.heap.size ≤ k) (fun j _ h => h.elim id (fun h => .inr (by have := HMC.out.size; have := hm0.size; omega))))
   have HMOD : Hid (Mod S w w7) := Lib.hid ((HMC.out.thenNil hm0).trans hmod (fun i hi h => h.elim id (fun h => by omega)))
   rw [hN] at hvc
   obtain ⟨pv, cv, rfl⟩ := hvc.form
   clear hvc hN hnext hb hbi hm0 hrun hvec hmod
   have HX := Lib.hid hx
   have HK := Lib.hid hk
   clear hx hk
   go_wp2_with (first | (at_builtin; refine wpList_append_run rfl _ _ _ _ rfl rfl rfl HRUN.out ?_))
   exact ⟨⟨c + 1, _, by omega, rfl, by have := HX.out; omega, Lib.hid (by rw [HLEN.out]; exact HVEC.out), HMOD⟩, by simp [intOf] <;> omega⟩
  ·obtain rfl : c = size := by omega
   obtain rfl : x = -1 := by omega
   go_wp2_with fail
   go_ret
   exact ⟨_, rfl, HVC.out, HMC.out⟩
end Go.Proofs.YtdfahddpkkeldaaGreat

/- A number as so many bytes. -/
namespace Go.Proofs.YtdfahddpkkeldaaGreat
open Go.RowKit
/-- a number as so many bytes -/
def nb (n : Int) (k : Nat) : List UInt8 := layC n.toNat k k
theorem nb_length (n : Int) (k : Nat) : (nb n k).length = k := layC_length _ _ _
end Go.Proofs.YtdfahddpkkeldaaGreat

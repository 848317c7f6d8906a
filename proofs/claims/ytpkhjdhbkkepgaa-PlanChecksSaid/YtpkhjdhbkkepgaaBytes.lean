/- Bytes: rows of them, slices.Clone, the comparison of two by their texts. -/
import Derived.Test.YtpkhjdhbkkepgaaChecked
import Derived.Test.YtpkhjdhbkkepgaaVec
import Derived.Lib.SliceRun
namespace Go.Proofs.Ytpkhjdhbkkepgaa
open Go.RowKit

def bys (l : List UInt8) : List Value := l.map (fun b => Value.int .u8 b.toNat)
theorem bys_length (l : List UInt8) : (bys l).length = l.length := by simp [bys]
theorem bys_getD (l : List UInt8) (i : Nat) (h : i < l.length) : (bys l).getD i undef = .int .u8 (l.getD i 0).toNat := by simp [bys, h]
theorem bys_one (l : List UInt8) : ∀ u ∈ bys l, u.oneCell' = true := by
  intro u hu
  obtain ⟨b, _, rfl⟩ := List.mem_map.1 hu
  rfl
theorem bys_append (l m : List UInt8) : bys (l ++ m) = bys l ++ bys m := by simp [bys]
/-- a new block with no cells is an empty vector -/
theorem vec_empty (w : World) (E : TypeId) (sz : Nat) : IsVec (fun k => w.heap.size ≤ k) (w.alloc (.cells #[] E)) E sz (.slice (some ⟨w.heap.size, 0, none⟩) 0 0) 0 [] :=
  ⟨⟨by simp, .inr ⟨w.heap.size, 0, #[], rfl, Nat.zero_le _, heap_alloc_new _ _, Nat.le_refl _, by simp, by simp, by simp⟩⟩, fun k hk => by simp [Value.ownBlock] at hk; omega⟩
theorem info_u8 : (Try.prog.info? 5).map (fun i => (i.zero, i.size, i.bytes)) = some (some (.int .u8 0), 1, 1) := by kernel_rfl
/-- append to a byte slice of the program's own -/
theorem bytes_append {S T : Nat → Prop} {w : World} (ty : TypeId) {v x : Value} {l m : List UInt8} (hv : IsVec S w 5 1 v l.length (bys l)) (hx : IsRow T w x (bys m)) (hb : l.length + m.length ≤ 140737488355328) :
    ∃ v' w', (Builtin.append_ #[28, 28] ty #[v, x]).run Try.prog w = .ok v' w' ∧ IsVec (fun k => S k ∨ w.heap.size ≤ k) w' 5 1 v' (l ++ m).length (bys (l ++ m)) ∧ Mod S w w' := by
  obtain ⟨i0, hi, hz0, hz1, hz2⟩ := info_parts info_u8
  have hx' := hx.cells
  rw [bys_length] at hx'
  obtain ⟨v', w', h1, h2, h3⟩ := vec_append (P := Try.prog) 28 ty 5 i0 (.int .u8 0) 1 1 Try.underlying28 hi hz0 hz1 hz2 rfl (by omega) hv hx' (by simp [bys_length]) (bys_one m) (by unfold maxLen; omega) (by omega)
  exact ⟨v', w', h1, by rw [bys_append, List.length_append]; exact h2, h3⟩
theorem cloneBytes (T : Nat → Prop) (v : Value) (l : List UInt8) (w : World) (h : IsRow T w v (bys l)) (hl : l.length ≤ 140737488355328) :
    Calls Try.prog 77 #[v] w fun e w' => ∃ v', e = .returned v' ∧ IsVec (fun k => w.heap.size ≤ k) w' 5 1 v' l.length (bys l) ∧ Mod nil w w' := by
  obtain ⟨p, c, rfl, hc⟩ := id h
  rw [bys_length] at *
  have heq := Lib.run_eql_slice_nil (P := Try.prog) w 28 5 p l.length c 0 0 Try.underlying28
  cases p with
  | none =>
    have h0 : l = [] := by
      rcases l with _ | ⟨a, l⟩
      · rfl
      · obtain ⟨b, off, h1, _⟩ := hc 0 (by simp); cases h1
    subst h0
    clear hl hc h
    simp only [List.length_nil, Option.isNone_none] at heq
    go_enter Try.func77, Try.ntmps77
    go_wp2
    go_ret
    exact ⟨_, rfl, IsVec.nil _ _ _ _, Mod.refl _ _⟩
  | some a =>
    have hv := vec_empty w 5 1
    have hx := h.modNil ((Mod.refl nil w).alloc (.cells #[] 5))
    obtain ⟨v', w', hrun, hvec, hmod⟩ := bytes_append (l := []) 28 hv hx (by simpa using hl)
    simp only [List.nil_append] at hvec
    clear hv hx h hl hc
    simp only [Option.isNone_some] at heq
    have HR := Lib.hid hrun
    clear hrun
    go_enter Try.func77, Try.ntmps77
    go_wp2_with (at_builtin; refine wpList_append_run rfl _ _ _ _ rfl rfl rfl HR.out ?_)
    go_ret
    exact ⟨_, rfl, hvec.mono (fun k _ hk => by rcases hk with hk | hk; exact hk; simp at hk; omega), ((Mod.refl nil w).alloc _).new hmod (fun _ h => h)⟩
end Go.Proofs.Ytpkhjdhbkkepgaa

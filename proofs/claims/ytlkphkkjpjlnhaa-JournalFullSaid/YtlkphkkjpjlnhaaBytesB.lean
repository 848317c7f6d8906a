/- Bytes: rows of them, slices.Clone, the comparison of two by their texts. -/
import Derived.Test.YtlkphkkjpjlnhaaChecked
import Derived.Test.YtlkphkkjpjlnhaaVec
import Derived.Lib.SliceRun
import Derived.Laws.IdiomStrings
import Derived.Lib.BufferRead
namespace Go.Proofs.Ytlkphkkjpjlnhaa
open Go.RowKit

def bys (l : List UInt8) : List Value := l.map (fun b => Value.int .u8 b.toNat)
theorem bys_length (l : List UInt8) : (bys l).length = l.length := by simp [bys]
theorem bys_getD (l : List UInt8) (i : Nat) (h : i < l.length) : (bys l).getD i undef = .int .u8 (l.getD i 0).toNat := by simp [bys, h]
theorem bys_one (l : List UInt8) : ∀ u ∈ bys l, u.oneCell' = true := by
  intro u hu
  obtain ⟨b, _, rfl⟩ := List.mem_map.1 hu
  rfl
theorem bys_append (l m : List UInt8) : bys (l ++ m) = bys l ++ bys m := by simp [bys]
/-- a new block with no cells is an empty vector -/
theorem vec_empty (w : World) (E : TypeId) (sz : Nat) : IsVec (fun k => w.heap.size ≤ k) (w.alloc (.cells #[] E)) E sz (.slice (some ⟨w.heap.size, 0, none⟩) 0 0) 0 [] :=
  ⟨⟨by simp, .inr ⟨w.heap.size, 0, #[], rfl, Nat.zero_le _, heap_alloc_new _ _, Nat.le_refl _, by simp, by simp, by simp⟩⟩, fun k hk => by simp [Value.ownBlock] at hk; omega⟩
theorem info_u8 : (Try.prog.info? 5).map (fun i => (i.zero, i.size, i.bytes)) = some (some (.int .u8 0), 1, 1) := by kernel_rfl
/-- append to a byte slice of the program's own -/
theorem bytes_append {S T : Nat → Prop} {w : World} (ty : TypeId) {v x : Value} {l m : List UInt8} (hv : IsVec S w 5 1 v l.length (bys l)) (hx : IsRow T w x (bys m)) (hb : l.length + m.length ≤ 140737488355328) :
    ∃ v' w', (Builtin.append_ #[33, 33] ty #[v, x]).run Try.prog w = .ok v' w' ∧ IsVec (fun k => S k ∨ w.heap.size ≤ k) w' 5 1 v' (l ++ m).length (bys (l ++ m)) ∧ Mod S w w' := by
  obtain ⟨i0, hi, hz0, hz1, hz2⟩ := info_parts info_u8
  have hx' := hx.cells
  rw [bys_length] at hx'
  obtain ⟨v', w', h1, h2, h3⟩ := vec_append (P := Try.prog) 33 ty 5 i0 (.int .u8 0) 1 1 Try.underlying33 hi hz0 hz1 hz2 rfl (by omega) hv hx' (by simp [bys_length]) (bys_one m) (by unfold maxLen; omega) (by omega)
  exact ⟨v', w', h1, by rw [bys_append, List.length_append]; exact h2, h3⟩
theorem cloneBytes (T : Nat → Prop) (v : Value) (l : List UInt8) (w : World) (h : IsRow T w v (bys l)) (hl : l.length ≤ 140737488355328) :
    Calls Try.prog 35 #[v] w fun e w' => ∃ v', e = .returned v' ∧ IsVec (fun k => w.heap.size ≤ k) w' 5 1 v' l.length (bys l) ∧ Mod nil w w' := by
  obtain ⟨p, c, rfl, hc⟩ := id h
  rw [bys_length] at *
  have heq := Lib.run_eql_slice_nil (P := Try.prog) w 33 5 p l.length c 0 0 Try.underlying33
  cases p with
  | none =>
    have h0 : l = [] := by
      rcases l with _ | ⟨a, l⟩
      · rfl
      · obtain ⟨b, off, h1, _⟩ := hc 0 (by simp); cases h1
    subst h0
    clear hl hc h
    simp only [List.length_nil, Option.isNone_none] at heq
    go_enter Try.func35, Try.ntmps35
    go_wp2
    go_ret
    exact ⟨_, rfl, IsVec.nil _ _ _ _, Mod.refl _ _⟩
  | some a =>
    have hv := vec_empty w 5 1
    have hx := h.modNil ((Mod.refl nil w).alloc (.cells #[] 5))
    obtain ⟨v', w', hrun, hvec, hmod⟩ := bytes_append (l := []) 33 hv hx (by simpa using hl)
    simp only [List.nil_append] at hvec
    clear hv hx h hl hc
    simp only [Option.isNone_some] at heq
    have HR := Lib.hid hrun
    clear hrun
    go_enter Try.func35, Try.ntmps35
    go_wp2_with (at_builtin; refine wpList_append_run rfl _ _ _ _ rfl rfl rfl HR.out ?_)
    go_ret
    exact ⟨_, rfl, hvec.mono (fun k _ hk => by rcases hk with hk | hk; exact hk; simp at hk; omega), ((Mod.refl nil w).alloc _).new hmod (fun _ h => h)⟩
end Go.Proofs.Ytlkphkkjpjlnhaa

/- Rows and vectors: fronts, capacities. -/
namespace Go.Proofs.Ytlkphkkjpjlnhaa
open Go.RowKit
theorem vecCap {S : Nat → Prop} {w : World} {E : TypeId} {sz n : Nat} {v : Value} {xs : List Value} (h : IsVec S w E sz v n xs) : ∃ p c, v = .slice p n c ∧ n ≤ c ∧ c ≤ maxLen := by
  rcases h.1.2 with ⟨rfl, rfl⟩ | ⟨g, cap, cur, rfl, _, _, h, hm, _⟩
  · exact ⟨_, _, rfl, Nat.le_refl _, by unfold maxLen; omega⟩
  · exact ⟨_, _, rfl, h, hm⟩
theorem bysTake (l : List UInt8) (n : Nat) : bys (l.take n) = (bys l).take n := by simp [bys, List.map_take]
theorem rowFront {S : Nat → Prop} {w : World} {p : Option Addr} {n c : Nat} {xs : List Value} (h : IsRow S w (.slice p n c) xs) (k : Nat) (hk : k ≤ xs.length) : IsRow S w (.slice p k c) (xs.take k) := by
  obtain ⟨p', c', hv, hc⟩ := h
  simp only [Value.slice.injEq] at hv
  obtain ⟨rfl, -, rfl⟩ := hv
  refine ⟨p, c, by rw [List.length_take, Nat.min_eq_left hk], fun i hi => ?_⟩
  rw [List.length_take] at hi
  obtain ⟨b, off, h1, h2, h3, h4⟩ := hc i (by omega)
  refine ⟨b, off, h1, h2, h3, ?_⟩
  rw [h4, List.getD_eq_getElem?_getD, List.getD_eq_getElem?_getD, List.getElem?_take_of_lt (by omega)]
/-- a block of an owned vector -/
theorem vecBlock {S : Nat → Prop} {w : World} {E : TypeId} {sz n : Nat} {p : Option Addr} {c : Nat} {xs : List Value} (h : IsVec S w E sz (.slice p n c) n xs) (hn : 0 < n) :
    ∃ b, p = some ⟨b, 0, none⟩ ∧ S b ∧ b < w.heap.size := by
  obtain ⟨⟨hl, h1⟩, h2⟩ := h
  rcases h1 with ⟨h, rfl⟩ | ⟨g, cap, cur, h, hg, hh, _⟩
  · omega
  · simp only [Value.slice.injEq] at h
    obtain ⟨rfl, -, rfl⟩ := h
    exact ⟨g, rfl, h2 g rfl, heap_lt hh⟩
end Go.Proofs.Ytlkphkkjpjlnhaa

/- Bytes as texts; cflref.Bytes. -/
namespace Go.Proofs.Ytlkphkkjpjlnhaa
open Go.RowKit

/-- a row of bytes as a text -/
theorem rowText {T : Nat → Prop} {w : World} {v : Value} {l : List UInt8} (h : IsRow T w v (bys l)) :
    (convert 33 9 v).run Try.prog w = .ok (.string ⟨l.toArray⟩) w := by
  obtain ⟨p, c, rfl, hc⟩ := h
  rw [bys_length] at *
  cases p with
  | none =>
    have h0 : l = [] := by
      rcases l with _ | ⟨a, l⟩
      · rfl
      · obtain ⟨b, off, h1, _⟩ := hc 0 (by simp); cases h1
    subst h0
    exact Lib.run_convert_nil_bytes w _ _ 5 c Try.underlying33 Try.underlying5 Try.underlying9
  | some a =>
    refine run_convert_bytes_back w _ _ 5 a c l Try.underlying33 Try.underlying5 Try.underlying9 (fun j hj => ?_)
    obtain ⟨b, off, h1, _, _, h2⟩ := hc j hj
    simp only [Option.some.injEq] at h1
    subst h1
    have e : (⟨b, off, none⟩ : Addr).add j = ⟨b, off + j, none⟩ := by unfold Addr.add; split <;> simp_all
    rw [e, h2, bys_getD _ _ hj]
    simp [hj]
theorem refBytesSame (S T : Nat → Prop) (va vb : Value) (la lb : List UInt8) (w : World) (ha : IsRow S w va (bys la)) (hb : IsRow T w vb (bys lb)) :
    Calls Try.prog 11 #[va, vb] w fun e w' => e = .returned (.bool (decide (la = lb))) ∧ w = w' := by
  have ra := rowText (ha.modNil (Mod.refl nil w))
  have rb := rowText (hb.modNil (Mod.refl nil w))
  obtain ⟨pa, ca, rfl, _⟩ := ha
  obtain ⟨pb, cb, rfl, _⟩ := hb
  go_enter Try.func11, Try.ntmps11
  go_wp2_with fail
  go_ret
  exact ⟨congrArg Ending.returned (congrArg Value.bool (show (la == lb) = decide (la = lb) from by rw [Bool.eq_iff_iff]; simp)), rfl⟩
end Go.Proofs.Ytlkphkkjpjlnhaa

/- bytes.Clone, bytes.Equal. -/
namespace Go.Proofs.Ytlkphkkjpjlnhaa
open Go.RowKit
theorem bytesClone (T : Nat → Prop) (v : Value) (l : List UInt8) (w : World) (h : IsRow T w v (bys l)) (hl : l.length ≤ 140737488355328) :
    Calls Try.prog 23 #[v] w fun e w' => ∃ v', e = .returned v' ∧ IsVec (fun k => w.heap.size ≤ k) w' 5 1 v' l.length (bys l) ∧ Mod nil w w' := by
  obtain ⟨p, c, rfl, hc⟩ := id h
  rw [bys_length] at *
  have heq := Lib.run_eql_slice_nil (P := Try.prog) w 33 5 p l.length c 0 0 Try.underlying33
  cases p with
  | none =>
    have h0 : l = [] := by
      rcases l with _ | ⟨a, l⟩
      · rfl
      · obtain ⟨b, off, h1, _⟩ := hc 0 (by simp); cases h1
    subst h0
    clear hl hc h
    simp only [List.length_nil, Option.isNone_none] at heq
    go_enter Try.func23, Try.ntmps23
    go_wp2
    go_ret
    exact ⟨_, rfl, IsVec.nil _ _ _ _, Mod.refl _ _⟩
  | some a =>
    have hv := vec_empty w 5 1
    have hx := h.modNil ((Mod.refl nil w).alloc (.cells #[] 5))
    obtain ⟨v', w', hrun, hvec, hmod⟩ := bytes_append (l := []) 33 hv hx (by simpa using hl)
    simp only [List.nil_append] at hvec
    clear hv hx h hl hc
    simp only [Option.isNone_some] at heq
    have HR := Lib.hid hrun
    clear hrun
    go_enter Try.func23, Try.ntmps23
    go_wp2_with (at_builtin; refine wpList_append_run rfl _ _ _ _ rfl rfl rfl HR.out ?_)
    go_ret
    exact ⟨_, rfl, hvec.mono (fun k _ hk => by rcases hk with hk | hk; exact hk; simp at hk; omega), ((Mod.refl nil w).alloc _).new hmod (fun _ h => h)⟩
theorem bytesEqual (S T : Nat → Prop) (va vb : Value) (la lb : List UInt8) (w : World) (ha : IsRow S w va (bys la)) (hb : IsRow T w vb (bys lb)) :
    Calls Try.prog 39 #[va, vb] w fun e w' => e = .returned (.bool (decide (la = lb))) ∧ w = w' := by
  have ra := rowText (ha.modNil (Mod.refl nil w))
  have rb := rowText (hb.modNil (Mod.refl nil w))
  obtain ⟨pa, ca, rfl, _⟩ := ha
  obtain ⟨pb, cb, rfl, _⟩ := hb
  go_enter Try.func39, Try.ntmps39
  go_wp2_with fail
  go_ret
  exact ⟨congrArg Ending.returned (congrArg Value.bool (show (la == lb) = decide (la = lb) from by rw [Bool.eq_iff_iff]; simp)), rfl⟩
end Go.Proofs.Ytlkphkkjpjlnhaa

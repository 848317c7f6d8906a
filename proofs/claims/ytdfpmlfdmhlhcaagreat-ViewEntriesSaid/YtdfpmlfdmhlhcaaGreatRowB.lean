/- Bytes: rows of them, slices.Clone, the comparison of two by their texts. -/
import Derived.Test.YtdfpmlfdmhlhcaaGreatChecked
import Derived.Test.YtdfpmlfdmhlhcaaGreatStep
import Derived.Lib.SliceRun
import Derived.Test.YtdfpmlfdmhlhcaaGreatRd
import Derived.Laws.Tables
namespace Go.Proofs.YtdfpmlfdmhlhcaaGreat
open Go.RowKit

def bys (l : List UInt8) : List Value := l.map (fun b => Value.int .u8 b.toNat)
theorem bys_length (l : List UInt8) : (bys l).length = l.length := by simp [bys]
theorem bys_getD (l : List UInt8) (i : Nat) (h : i < l.length) : (bys l).getD i undef = .int .u8 (l.getD i 0).toNat := by simp [bys, h]
theorem bys_one (l : List UInt8) : ∀ u ∈ bys l, u.oneCell' = true := by
  intro u hu
  obtain ⟨b, _, rfl⟩ := List.mem_map.1 hu
  rfl
theorem bys_append (l m : List UInt8) : bys (l ++ m) = bys l ++ bys m := by simp [bys]
/-- a new block with no cells is an empty vector -/
theorem vec_empty (w : World) (E : TypeId) (sz : Nat) : IsVec (fun k => w.heap.size ≤ k) (w.alloc (.cells #[] E)) E sz (.slice (some ⟨w.heap.size, 0, none⟩) 0 0) 0 [] :=
  ⟨⟨by simp, .inr ⟨w.heap.size, 0, #[], rfl, Nat.zero_le _, heap_alloc_new _ _, Nat.le_refl _, by simp, by simp, by simp⟩⟩, fun k hk => by simp [Value.ownBlock] at hk; omega⟩
theorem info_u8 : (Tryz.prog.info? 5).map (fun i => (i.zero, i.size, i.bytes)) = some (some (.int .u8 0), 1, 1) := by kernel_rfl
/-- append to a byte slice of the program's own -/
theorem bytes_append {S T : Nat → Prop} {w : World} (ty : TypeId) {v x : Value} {l m : List UInt8} (hv : IsVec S w 5 1 v l.length (bys l)) (hx : IsRow T w x (bys m)) (hb : l.length + m.length ≤ 140737488355328) :
    ∃ v' w', (Builtin.append_ #[26, 26] ty #[v, x]).run Tryz.prog w = .ok v' w' ∧ IsVec (fun k => S k ∨ w.heap.size ≤ k) w' 5 1 v' (l ++ m).length (bys (l ++ m)) ∧ Mod S w w' := by
  obtain ⟨i0, hi, hz0, hz1, hz2⟩ := info_parts info_u8
  have hx' := hx.cells
  rw [bys_length] at hx'
  obtain ⟨v', w', h1, h2, h3⟩ := vec_append (P := Tryz.prog) 26 ty 5 i0 (.int .u8 0) 1 1 Tryz.underlying26 hi hz0 hz1 hz2 rfl (by omega) hv hx' (by simp [bys_length]) (bys_one m) (by unfold maxLen; omega) (by omega)
  exact ⟨v', w', h1, by rw [bys_append, List.length_append]; exact h2, h3⟩
theorem cloneBytes (T : Nat → Prop) (v : Value) (l : List UInt8) (w : World) (h : IsRow T w v (bys l)) (hl : l.length ≤ 140737488355328) :
    Calls Tryz.prog 80 #[v] w fun e w' => ∃ v', e = .returned v' ∧ IsVec (fun k => w.heap.size ≤ k) w' 5 1 v' l.length (bys l) ∧ Mod nil w w' := by
  obtain ⟨p, c, rfl, hc⟩ := id h
  rw [bys_length] at *
  have heq := Lib.run_eql_slice_nil (P := Tryz.prog) w 26 5 p l.length c 0 0 Tryz.underlying26
  cases p with
  | none =>
    have h0 : l = [] := by
      rcases l with _ | ⟨a, l⟩
      · rfl
      · obtain ⟨b, off, h1, _⟩ := hc 0 (by simp); cases h1
    subst h0
    clear hl hc h
    simp only [List.length_nil, Option.isNone_none] at heq
    go_enter Tryz.func80, Tryz.ntmps80
    go_wp2
    go_ret
    exact ⟨_, rfl, IsVec.nil _ _ _ _, Mod.refl _ _⟩
  | some a =>
    have hv := vec_empty w 5 1
    have hx := h.modNil ((Mod.refl nil w).alloc (.cells #[] 5))
    obtain ⟨v', w', hrun, hvec, hmod⟩ := bytes_append (l := []) 26 hv hx (by simpa using hl)
    simp only [List.nil_append] at hvec
    clear hv hx h hl hc
    simp only [Option.isNone_some] at heq
    have HR := Lib.hid hrun
    clear hrun
    go_enter Tryz.func80, Tryz.ntmps80
    go_wp2_with (at_builtin; refine wpList_append_run rfl _ _ _ _ rfl rfl rfl HR.out ?_)
    go_ret
    exact ⟨_, rfl, hvec.mono (fun k _ hk => by rcases hk with hk | hk; exact hk; simp at hk; omega), ((Mod.refl nil w).alloc _).new hmod (fun _ h => h)⟩
end Go.Proofs.YtdfpmlfdmhlhcaaGreat

/- Arguments read plainly: bytes, bools. -/
namespace Go.Proofs.YtdfpmlfdmhlhcaaGreat
open Go.ChangeShapes Go.WideShapes Go.ChangeAt Go.RowKit
theorem bytes_of_ints : ∀ (l : List Int), (∀ x ∈ l, (Lit.int .u8 x).wf = true) → ∃ m : List UInt8, l.map (Value.int .u8) = bys m
  | [], _ => ⟨[], rfl⟩
  | x :: l, h => by
    obtain ⟨m, hm⟩ := bytes_of_ints l (fun y hy => h y (List.mem_cons_of_mem _ hy))
    have hx := h x (by simp)
    have hr : 0 ≤ x ∧ x ≤ 255 := by simpa [Lit.wf, IntKind.min, IntKind.max, IntKind.bits, IntKind.signed] using hx
    obtain ⟨n, rfl⟩ := Int.eq_ofNat_of_zero_le hr.1
    refine ⟨UInt8.ofNat n :: m, ?_⟩
    rw [List.map_cons, hm]
    show _ = Value.int .u8 ((UInt8.ofNat n).toNat : Int) :: bys m
    rw [UInt8.toNat_ofNat', Nat.mod_eq_of_lt (by omega)]
theorem Rd.bytes {w : World} {v : Value} (h : Rd w 26 v) : ∃ l : List UInt8, IsRow (· < w.heap.size) w v (bys l) ∧ l.length ≤ maxLen := by
  obtain ⟨l, hl, hn, hw⟩ := h.intRow Tryz.underlying26 Tryz.underlying5 (by kernel_rfl)
  obtain ⟨m, hm⟩ := bytes_of_ints l hw
  refine ⟨m, hm ▸ hl, ?_⟩
  have := congrArg List.length hm
  simp [bys_length] at this
  omega
theorem Rd.bytesCap {w : World} {v : Value} (h : Rd w 26 v) : ∃ (p : Option Addr) (cap : Nat) (l : List UInt8), v = .slice p l.length cap ∧ l.length ≤ cap ∧ cap ≤ maxLen ∧ IsRow (· < w.heap.size) w (.slice p l.length cap) (bys l) := by
  obtain ⟨p, len, cap, rfl, hc, hm, -⟩ := Rd.slice Tryz.underlying26 (by rw [show Tryz.prog.cellsOf 5 = 1 from by kernel_rfl]; omega) h
  obtain ⟨l, hl, hn⟩ := h.bytes
  obtain ⟨p', c', hv, r⟩ := id hl
  simp only [Value.slice.injEq, bys_length] at hv
  obtain ⟨rfl, rfl, rfl⟩ := hv
  exact ⟨_, _, l, rfl, hc, hm, hl⟩
theorem Rd.bools {w : World} {v : Value} (h : Rd w 153 v) : ∃ l : List Bool, IsRow (· < w.heap.size) w v (l.map Value.bool) ∧ l.length ≤ maxLen := by
  obtain ⟨p, len, cap, rfl, hl, hm, hall⟩ := h.slice Tryz.underlying153 (by rw [show Tryz.prog.cellsOf 4 = 1 from by kernel_rfl]; omega)
  have hc : Tryz.prog.cellsOf 4 = 1 := by kernel_rfl
  have : ∀ i, i < len → ∃ x : Bool, ∃ b off, p = some ⟨b, off, none⟩ ∧ b < w.heap.size ∧ w.cell? ⟨b, off + i, none⟩ = some (.bool x) := by
    intro i hi
    obtain ⟨b, off, cs', hp, hb, hlen, hcell, hrc⟩ := hall i hi
    obtain ⟨x, rfl⟩ := hrc.bool Tryz.underlying4
    refine ⟨x, b, off, hp, hb, ?_⟩
    have := hcell 0 (by simp)
    simpa [hc] using this
  obtain ⟨l, hlen, hP⟩ := choose_list this
  refine ⟨l, ⟨p, cap, by simp [hlen], fun i hi => ?_⟩, by omega⟩
  simp at hi
  obtain ⟨b, off, hp, hb, hcell⟩ := hP i hi
  exact ⟨b, off, hp, hb, hb, by rw [hcell]; simp [hi]⟩
end Go.Proofs.YtdfpmlfdmhlhcaaGreat

/- Rows and vectors: fronts, capacities. -/
namespace Go.Proofs.YtdfpmlfdmhlhcaaGreat
open Go.RowKit
theorem vecCap {S : Nat → Prop} {w : World} {E : TypeId} {sz n : Nat} {v : Value} {xs : List Value} (h : IsVec S w E sz v n xs) : ∃ p c, v = .slice p n c ∧ n ≤ c ∧ c ≤ maxLen := by
  rcases h.1.2 with ⟨rfl, rfl⟩ | ⟨g, cap, cur, rfl, _, _, h, hm, _⟩
  · exact ⟨_, _, rfl, Nat.le_refl _, by unfold maxLen; omega⟩
  · exact ⟨_, _, rfl, h, hm⟩
theorem bysTake (l : List UInt8) (n : Nat) : bys (l.take n) = (bys l).take n := by simp [bys, List.map_take]
theorem rowFront {S : Nat → Prop} {w : World} {p : Option Addr} {n c : Nat} {xs : List Value} (h : IsRow S w (.slice p n c) xs) (k : Nat) (hk : k ≤ xs.length) : IsRow S w (.slice p k c) (xs.take k) := by
  obtain ⟨p', c', hv, hc⟩ := h
  simp only [Value.slice.injEq] at hv
  obtain ⟨rfl, -, rfl⟩ := hv
  refine ⟨p, c, by rw [List.length_take, Nat.min_eq_left hk], fun i hi => ?_⟩
  rw [List.length_take] at hi
  obtain ⟨b, off, h1, h2, h3, h4⟩ := hc i (by omega)
  refine ⟨b, off, h1, h2, h3, ?_⟩
  rw [h4, List.getD_eq_getElem?_getD, List.getD_eq_getElem?_getD, List.getElem?_take_of_lt (by omega)]
/-- a block of an owned vector -/
theorem vecBlock {S : Nat → Prop} {w : World} {E : TypeId} {sz n : Nat} {p : Option Addr} {c : Nat} {xs : List Value} (h : IsVec S w E sz (.slice p n c) n xs) (hn : 0 < n) :
    ∃ b, p = some ⟨b, 0, none⟩ ∧ S b ∧ b < w.heap.size := by
  obtain ⟨⟨hl, h1⟩, h2⟩ := h
  rcases h1 with ⟨h, rfl⟩ | ⟨g, cap, cur, h, hg, hh, _⟩
  · omega
  · simp only [Value.slice.injEq] at h
    obtain ⟨rfl, -, rfl⟩ := h
    exact ⟨g, rfl, h2 g rfl, heap_lt hh⟩
theorem Mod.rowSet {S : Nat → Prop} {a w : World} (h : Mod S a w) (g : Nat) (cs : Array Value) (hg : g < a.heap.size → S g) : Mod S a (w.setRow g cs) :=
  ⟨h.os, h.tape, h.output, by simpa [World.setRow] using h.size, fun k hk hs => (setRow_other w g k cs (fun e => hs (e ▸ hg (e ▸ hk)))).trans (h.block k hk hs)⟩
theorem vec_set {S : Nat → Prop} {w : World} {E : TypeId} {v : Value} {n : Nat} {xs : List Value} (h : IsVec S w E 1 v n xs) (i : Nat) (hi : i < n) :
    ∃ g c, v = .slice (some ⟨g, 0, none⟩) n c ∧ S g ∧ g < w.heap.size ∧ w.cell? ⟨g, i, none⟩ = some (xs.getD i undef) ∧ w.frozen? ⟨g, i, none⟩ = false ∧ ∀ u : Value, u.oneCell' = true → IsVec S (w.setCell ⟨g, i, none⟩ u) E 1 v n (xs.set i u) := by
  obtain ⟨p, c, hv, hc⟩ := h.row
  have hl := h.len
  obtain ⟨b, off, hp, hS, hb, hcell⟩ := hc i (by omega)
  obtain ⟨⟨hlen, h1⟩, h2⟩ := h
  rcases h1 with ⟨_, h0⟩ | ⟨g, cap, cur, rfl, hg, hh, hn, hm, hs, ht⟩
  · omega
  · simp only [Value.slice.injEq] at hv
    obtain ⟨rfl, -, rfl⟩ := hv
    simp only [Option.some.injEq, Addr.mk.injEq, and_true] at hp
    obtain ⟨rfl, rfl⟩ := hp
    rw [Nat.zero_add] at hcell
    refine ⟨g, cap, rfl, hS, hb, hcell, free_of hh i, fun u hu => ⟨⟨by simpa using hlen, .inr ⟨g, cap, cur.setIfInBounds i u, rfl, hg, heap_setCell_same hh u, hn, hm, by simpa using hs, ?_⟩⟩, h2⟩⟩
    rw [← ht]
    simp [List.take_set]
end Go.Proofs.YtdfpmlfdmhlhcaaGreat

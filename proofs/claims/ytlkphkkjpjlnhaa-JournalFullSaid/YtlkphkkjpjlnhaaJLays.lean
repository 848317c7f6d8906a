/- Package journal: lays. -/
import Derived.Test.YtlkphkkjpjlnhaaJournalB
import Derived.Test.YtlkphkkjpjlnhaaDiskB
import Derived.LoopTactic
namespace Go.Proofs.Ytlkphkkjpjlnhaa
open Go.RowKit
theorem IsDisk.here {w : World} {b bl bm : Nat} {C : Nat → Prop} {d : DS} (h : IsDisk w b bl bm C d) : IsDisk w b bl bm (fun k => C k ∧ k < w.heap.size) d := by
  obtain ⟨vl, h1, h2, h3⟩ := h.lasts
  obtain ⟨vm, h4, h5⟩ := h.pend
  exact ⟨h.obj, ⟨vl, h1, h2, fun i hi hi' => ⟨(h3 i hi hi').1.here, (h3 i hi hi').2⟩⟩, ⟨vm, h4, h5.1, fun i hi hi' => ⟨(h5.2 i hi hi').1, (h5.2 i hi hi').2.1.here, (h5.2 i hi hi').2.2⟩⟩, h.keys, h.room, h.fz, h.ne1, h.ne2, h.ne3, fun x => h.c1 x.1, fun x => h.c2 x.1, fun x => h.c3 x.1⟩
theorem row_take {S : Nat → Prop} {w : World} {p : Option Addr} {n c : Nat} {xs : List Value} (h : IsRow S w (.slice p n c) xs) (k : Nat) (hk : k ≤ xs.length) : IsRow S w (.slice p k c) (xs.take k) := by
  obtain ⟨p', c', hv, hc⟩ := h
  simp only [Value.slice.injEq] at hv
  obtain ⟨rfl, -, rfl⟩ := hv
  refine ⟨p, c, by rw [List.length_take, Nat.min_eq_left hk], fun i hi => ?_⟩
  rw [List.length_take] at hi
  obtain ⟨b, off, h1, h2, h3, h4⟩ := hc i (by omega)
  exact ⟨b, off, h1, h2, h3, by rw [h4, List.getD_eq_getElem?_getD, List.getD_eq_getElem?_getD, List.getElem?_take_of_lt (by omega)]⟩
theorem bys_take (b : List UInt8) (k : Nat) : (bys b).take k = bys (b.take k) := by simp [bys]
/-- a cut out of a slice of bytes -/
theorem slice_cut (T : Nat → Prop) (p : Option Addr) (len cap lo hi : Nat) (b : List UInt8) (w : World) (hrow : IsRow T w (.slice p len cap) (bys b)) (h1 : lo < hi) (h2 : hi ≤ len) (hcap : len ≤ cap) :
    ∃ p2, (∀ W, (Instr.slice 33 (.slice p len cap) (some (.int .i64 (lo : Int))) (some (.int .i64 (hi : Int))) none).run Try.prog W = .ok (.slice p2 (hi - lo) (cap - lo)) W) ∧ ∀ W, IsRow T W (.slice p len cap) (bys b) → IsRow T W (.slice p2 (hi - lo) (cap - lo)) (bys ((b.drop lo).take (hi - lo))) := by
  have hbl : b.length = len := by
    obtain ⟨_, _, h, _⟩ := hrow
    simp only [Value.slice.injEq, bys_length] at h
    exact h.2.1.symm
  obtain ⟨i0, hi0, hz0, hz1, hz2⟩ := info_parts info_u8
  have he : Try.prog.elem 33 = 5 := by simp [Program.elem, Try.underlying33]
  have hu : Try.prog.underlying 33 = some (.slice (Try.prog.elem 33)) := by rw [he]; exact Try.underlying33
  have hs : ∀ W, (sizeOf (Try.prog.elem 33)).run Try.prog W = .ok 1 W := fun W => by
    rw [he]
    simp [sizeOf, typeInfo, hi0, hz1]
  obtain ⟨g, o, rfl, -, -⟩ := row_some hrow (by omega)
  refine ⟨some ⟨g, o + lo, none⟩, fun W => ?_, fun W h => ?_⟩
  · rw [run_slice_lh W _ (some ⟨g, o, none⟩) len cap hu .i64 .i64 lo hi (by omega) (by omega) (by omega), hs W]
    have hc : ¬ cap = lo := by omega
    simp [sliced, Addr.add, hc]
  · have h3 := row_take (row_drop h lo (by rw [bys_length, hbl]; omega)) (hi - lo) (by rw [List.length_drop, bys_length, hbl]; omega)
    rw [← bys_drop, bys_take] at h3
    exact h3
theorem slice_front (T : Nat → Prop) (p : Option Addr) (len cap hi : Nat) (b : List UInt8) (w : World) (hrow : IsRow T w (.slice p len cap) (bys b)) (h1 : 0 < hi) (h2 : hi ≤ len) (hcap : len ≤ cap) :
    (∀ W, (Instr.slice 33 (.slice p len cap) none (some (.int .i64 (hi : Int))) none).run Try.prog W = .ok (.slice p hi cap) W) ∧ ∀ W, IsRow T W (.slice p len cap) (bys b) → IsRow T W (.slice p hi cap) (bys (b.take hi)) := by
  have hbl : b.length = len := by
    obtain ⟨_, _, h, _⟩ := hrow
    simp only [Value.slice.injEq, bys_length] at h
    exact h.2.1.symm
  obtain ⟨i0, hi0, hz0, hz1, hz2⟩ := info_parts info_u8
  have he : Try.prog.elem 33 = 5 := by simp [Program.elem, Try.underlying33]
  have hu : Try.prog.underlying 33 = some (.slice (Try.prog.elem 33)) := by rw [he]; exact Try.underlying33
  have hs : ∀ W, (sizeOf (Try.prog.elem 33)).run Try.prog W = .ok 1 W := fun W => by
    rw [he]
    simp [sizeOf, typeInfo, hi0, hz1]
  refine ⟨fun W => ?_, fun W h => ?_⟩
  · rw [run_slice_h W _ p len cap hu .i64 hi (by omega) (by omega)]
    (try rw [hs W])
    have hp : p.map (fun x => x.add 0) = p := by cases p with
      | none => rfl
      | some a => cases a; simp [Addr.add]
    simp [sliced, hp]
  · rw [← bys_take]
    exact row_take h hi (by rw [bys_length, hbl]; exact h2)
def sectAt (b : List UInt8) (k : Nat) : List UInt8 := (b.drop (64 * k)).take 64
/-- the sectors behind the first, from number k on -/
def DS.tails (d : DS) (base : Nat) (b : List UInt8) : Nat → Nat → DS × Bool
  | 0, _ => (d, true)
  | f + 1, k => if (d.write ((base + k : Nat) : Int) (sectAt b k)).2 = 0 then DS.tails (d.write ((base + k : Nat) : Int) (sectAt b k)).1 base b f (k + 1) else ((d.write ((base + k : Nat) : Int) (sectAt b k)).1, false)
/-- behind the tails: the sync between, the first sector, the last sync -/
def DS.heads (d : DS) (base : Nat) (b : List UInt8) (m : Nat) : DS × Bool :=
  if 1 < m ∧ d.sync.2 ≠ 0 then (d.sync.1, false) else
  if ((if 1 < m then d.sync.1 else d).write (base : Int) (sectAt b 0)).2 ≠ 0 then (((if 1 < m then d.sync.1 else d).write (base : Int) (sectAt b 0)).1, false) else
  ((((if 1 < m then d.sync.1 else d).write (base : Int) (sectAt b 0)).1).sync.1, decide ((((if 1 < m then d.sync.1 else d).write (base : Int) (sectAt b 0)).1).sync.2 = 0))
def DS.lays (d : DS) (base : Nat) (b : List UInt8) (m : Nat) : DS × Bool :=
  if (d.tails base b (m - 1) 1).2 = true then (d.tails base b (m - 1) 1).1.heads base b m else ((d.tails base b (m - 1) 1).1, false)
theorem DS.write_len (d : DS) (i : Int) (l : List UInt8) : (d.write i l).1.lasts.length = d.lasts.length := by
  unfold DS.write
  have := d.burn_lasts.1
  repeat' split
  all_goals (simp only; try rw [this])
theorem DS.sync_len (d : DS) : d.sync.1.lasts.length = d.lasts.length := by
  unfold DS.sync DS.synced
  have := d.burn_lasts.1
  repeat' split
  all_goals (first | rfl | exact congrArg List.length this | simp)
theorem DS.sync_err (d : DS) : d.sync.2 = 0 ∨ d.sync.2 = 13 := by
  unfold DS.sync
  repeat' split
  all_goals simp
theorem DS.tails_go (d : DS) (base : Nat) (b : List UInt8) (f k : Nat) (h : (d.write ((base + k : Nat) : Int) (sectAt b k)).2 = 0) : d.tails base b (f + 1) k = (d.write ((base + k : Nat) : Int) (sectAt b k)).1.tails base b f (k + 1) := by rw [DS.tails]; exact if_pos h
theorem DS.tails_stop (d : DS) (base : Nat) (b : List UInt8) (f k : Nat) (h : ¬ (d.write ((base + k : Nat) : Int) (sectAt b k)).2 = 0) : d.tails base b (f + 1) k = ((d.write ((base + k : Nat) : Int) (sectAt b k)).1, false) := by rw [DS.tails]; exact if_neg h
end Go.Proofs.Ytlkphkkjpjlnhaa

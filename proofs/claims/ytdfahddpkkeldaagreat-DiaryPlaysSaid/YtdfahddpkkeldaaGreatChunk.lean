/- slices.Chunk at []byte: what its iterator does, for every loop body that keeps its two boxes. -/
import Derived.RangeFuncNested
import Derived.RangeFuncBound
import Derived.RangeFuncCalls
import Derived.RangeFuncLeaves
import Derived.Shelf.Abstract
import Derived.Shelf.RegionOpen
import Derived.OwnWalkIn
import Derived.TacticsInMore
import Derived.LoopNIn
import Derived.LoopIn
import Derived.Sort.QuietIn
import Derived.Test.YtdfahddpkkeldaaGreatNb
namespace Go.Proofs.YtdfahddpkkeldaaGreat
open Go.RowKit Go.Shelf
attribute [local go_sem] Oper.semAt_some
def cnt (len c : Nat) : Nat := (len + (c - 1)) / c
theorem cnt_lt {len c k : Nat} (hc : 1 ≤ c) : k < cnt len c ↔ c * k < len := by
  unfold cnt
  constructor
  · intro h
    have h1 : (k + 1) * c ≤ len + (c - 1) := by
      have := (Nat.le_div_iff_mul_le (by omega)).1 (show k + 1 ≤ (len + (c - 1)) / c from h)
      exact this
    rw [Nat.add_mul, Nat.one_mul, Nat.mul_comm] at h1
    omega
  · intro h
    have : k + 1 ≤ (len + (c - 1)) / c := by
      rw [Nat.le_div_iff_mul_le (by omega), Nat.add_mul, Nat.one_mul, Nat.mul_comm k c]
      omega
    exact this
/-- the k-th chunk -/
def chunkAt (b off len c k : Nat) : Value := .slice (some ⟨b, off + c * k, none⟩) (min c (len - c * k)) (min c (len - c * k))
set_option maxRecDepth 100000 in
set_option maxHeartbeats 2000000 in
theorem chunk1_in (n : Nat) (hn : 1 ≤ n) (l Bs Bn b off len cap c : Nat) (hc1 : 1 ≤ c) (hc2 : c ≤ 1048576) (hlc : len ≤ cap) (hl : len ≤ 1099511627776) (Kp : World → World → Prop)
  (hKs : ∀ A B v, Kp A B → A.cell? ⟨Bs, 0, none⟩ = some v → B.cell? ⟨Bs, 0, none⟩ = some v) (hKn : ∀ A B v, Kp A B → A.cell? ⟨Bn, 0, none⟩ = some v → B.cell? ⟨Bn, 0, none⟩ = some v) (J Jx : List (Fin (cnt len c)) → World → Prop)
  (hY : ∀ pre x W, J pre W → pre.length < cnt len c → YieldAt Fence.wide (n - 1) Tryz.prog l #[chunkAt b off len c x.val] W fun e W' =>
   (e = .returned (.bool true) ∧ J (pre ++ [x]) W' ∧ Kp W W') ∨ (e = .returned (.bool false) ∧ Jx (pre ++ [x]) W'))
  (W : World) (hBs : W.cell? ⟨Bs, 0, none⟩ = some (.slice (some ⟨b, off, none⟩) len cap)) (hBn : W.cell? ⟨Bn, 0, none⟩ = some (.int .i64 c)) (h0 : J [] W) (hJd : ∀ pre A m, J pre A → J pre (A.drewN m)) :
  CallsIn Fence.wide n Tryz.prog 138 #[.func (.yield l) #[] #[], .pointer (some ⟨Bs, 0, none⟩), .pointer (some ⟨Bn, 0, none⟩)] W fun e W' => (∃ v, e = .returned v) ∧
   ((∃ ys, ys.map (·.val) = List.range (cnt len c) ∧ J ys W') ∨ (∃ pre, (∃ k, k ≤ cnt len c ∧ pre.map (·.val) = List.range k) ∧ Jx pre W')) := by
 refine callsIn_of_wp Tryz.func138 rfl trivial ?_ rfl
 simp only [Tryz.ntmps138, List.size_toArray, List.length_cons, List.length_nil, Nat.reduceAdd, Nat.reduceSub, Array.replicate_succ, Array.replicate_zero, List.push_toArray, List.append_toArray, List.nil_append, List.cons_append]
 gi_wp2
 gi_loopw [4] (fun i wr => ∃ (k : Nat) (pre : List (Fin (cnt len c))), k ≤ cnt len c ∧ pre.map (·.val) = List.range k ∧ i = .int .i64 (c * k : Nat) ∧ J pre wr ∧ wr.cell? ⟨Bs, 0, none⟩ = some (.slice (some ⟨b, off, none⟩) len cap) ∧ wr.cell? ⟨Bn, 0, none⟩ = some (.int .i64 c))
  (fun i _ => len - (intOf i).toNat)
 case atStart => exact ⟨0, [], Nat.zero_le _, rfl, by simp, h0, hBs, hBn⟩
 case round =>
  obtain ⟨k, pre, hk, hpre, rfl, hJs, hs, hn'⟩ := hrel
  have hplen : pre.length = k := by have := congrArg List.length hpre; simpa using this
  have HPRE := Lib.hid hpre
  clear hpre
  by_cases hlt : k < cnt len c
  ·have hkl := (cnt_lt hc1).1 hlt
   obtain ⟨i, hi⟩ : ∃ i, c * k = i := ⟨_, rfl⟩
   obtain ⟨E, hE⟩ : ∃ E, min c (len - i) = E := ⟨_, rfl⟩
   have hi2 : i < len := by omega
   have hE1 : E ≤ c := by omega
   have hE2 : i + E ≤ len := by omega
   have hmin : (if len - i < c then ((len - i : Nat) : Int) else (c : Int)) = (E : Int) := by split <;> omega
   rw [hi]
   gi_wp2
   gi_quiet (fail)
   obtain ⟨fn, tmps, assign, body, hy, hR⟩ := hY _ ⟨k, hlt⟩ (wr.drewN nq) (hJd _ _ _ hJs) (by rw [hplen]; exact hlt)
   simp only [chunkAt, hi, hE] at hy
   have hs2 : (wr.drewN nq).cell? ⟨Bs, 0, none⟩ = some (.slice (some ⟨b, off, none⟩) len cap) := hs
   have hn2 : (wr.drewN nq).cell? ⟨Bn, 0, none⟩ = some (.int .i64 c) := hn'
   have hHR := Lib.hid hR
   clear hs hn' hR
   generalize wr.drewN nq = w1 at hy hs2 hn2 hHR ⊢
   gi_wp2
   refine hHR.out.mono ?_
   rintro e W3 (⟨rfl, hJ3, hk3⟩ | ⟨rfl, hJx3⟩)
   ·have hs3 := hKs _ _ _ hk3 hs2
    have hn3 := hKn _ _ _ hk3 hn2
    gi_wp2
    go_roundw
    case rel => exact ⟨k + 1, pre ++ [⟨k, hlt⟩], by omega, by rw [List.map_append, HPRE.out, List.range_succ]; rfl, by rw [Nat.mul_add, hi, Nat.mul_one]; simp, hJ3, hs3, hn3⟩
    case measure => simp [intOf]; omega
   ·gi_wp2
    refine bodyPost_ret (results_none rfl _ _ _) rfl ?_
    exact ⟨⟨_, rfl⟩, .inr ⟨_, ⟨k + 1, by omega, by rw [List.map_append, HPRE.out, List.range_succ]; rfl⟩, hJx3⟩⟩
  ·obtain rfl : k = cnt len c := by omega
   have hkl : ¬ c * cnt len c < len := fun h => hlt ((cnt_lt hc1).2 h)
   obtain ⟨i, hi⟩ : ∃ i, c * cnt len c = i := ⟨_, rfl⟩
   rw [hi] at hkl ⊢
   gi_wp2
   go_end0
   exact ⟨⟨_, rfl⟩, .inl ⟨_, HPRE.out, hJs⟩⟩
theorem abides_drewN {β : Type} {B : Nat} {J : β → World → Prop} (h : AbidesFrom B J) {s : β} {W : World} (m : Nat) (hs : J s W) : J s (W.drewN m) :=
 h s W _ none hs ⟨rfl, rfl, rfl, Nat.le_refl _, fun _ _ _ => rfl⟩ (fun r e => by cases e)
set_option maxRecDepth 100000 in
/-- no byte: no round -/
theorem chunk0_in (n : Nat) (l Bs Bn : Nat) (p : Option Addr) (cap : Nat) {α : Type} (J : List α → World → Prop) (W : World) (hBs : W.cell? ⟨Bs, 0, none⟩ = some (.slice p 0 cap)) (h0 : J [] W) :
  CallsIn Fence.wide n Tryz.prog 138 #[.func (.yield l) #[] #[], .pointer (some ⟨Bs, 0, none⟩), .pointer (some ⟨Bn, 0, none⟩)] W fun e W' => (∃ v, e = .returned v) ∧ J [] W' := by
 refine callsIn_of_wp Tryz.func138 rfl trivial ?_ rfl
 simp only [Tryz.ntmps138, List.size_toArray, List.length_cons, List.length_nil, Nat.reduceAdd, Nat.reduceSub, Array.replicate_succ, Array.replicate_zero, List.push_toArray, List.append_toArray, List.nil_append, List.cons_append]
 gi_wp2
 gi_loopw [4] (fun i wr => i = .int .i64 0 ∧ J [] wr ∧ wr.cell? ⟨Bs, 0, none⟩ = some (.slice p 0 cap)) (fun _ _ => 0)
 case atStart => exact ⟨rfl, h0, hBs⟩
 case round =>
  obtain ⟨rfl, hJs, hs⟩ := hrel
  gi_wp2
  go_end0
  exact ⟨⟨_, rfl⟩, hJs⟩
set_option maxRecDepth 100000 in
/-- slices.Chunk(s, c): the slice and the number are boxed; the function value captures the boxes -/
theorem chunk_call (p : Option Addr) (len cap c : Nat) (hc : 1 ≤ c) (w : World) :
  Calls Tryz.prog 124 #[.slice p len cap, .int .i64 c] w fun e w' => e = .returned (.func (.func 138) #[] #[.pointer (some ⟨w.heap.size, 0, none⟩), .pointer (some ⟨w.heap.size + 1, 0, none⟩)]) ∧ w' = (w.alloc (.cells #[.slice p len cap] 40)).alloc (.cells #[.int .i64 c] 3) := by
 have hmf : ∀ (fn : Fn) (first cap : Array Value) (w : World), (Instr.makeFunc fn first cap).run Tryz.prog w = .ok (.func fn first cap) w := fun _ _ _ _ => rfl
 have hci : ¬ ((c : Int) < 1) := by omega
 go_enter Tryz.func124, Tryz.ntmps124
 go_wp2_with fail
 go_ret
 exact ⟨rfl, rfl⟩
/-- the bytes of a slice as its chunks: which, and how many -/
theorem chunk_stops (n : Nat) (hn : 1 ≤ n) (Bs Bn b off len cap c : Nat) (p : Option Addr) (hp : 0 < len → p = some ⟨b, off, none⟩) (hc1 : 1 ≤ c) (hc2 : c ≤ 1048576) (hlc : len ≤ cap) (hl : len ≤ 1099511627776) (Kp : World → World → Prop)
  (hKs : ∀ A B v, Kp A B → A.cell? ⟨Bs, 0, none⟩ = some v → B.cell? ⟨Bs, 0, none⟩ = some v) (hKn : ∀ A B v, Kp A B → A.cell? ⟨Bn, 0, none⟩ = some v → B.cell? ⟨Bn, 0, none⟩ = some v) (w : World)
  (hBs : w.cell? ⟨Bs, 0, none⟩ = some (.slice p len cap)) (hBn : w.cell? ⟨Bn, 0, none⟩ = some (.int .i64 c)) :
  SeqStopsK Fence.wide n Tryz.prog 138 #[.pointer (some ⟨Bs, 0, none⟩), .pointer (some ⟨Bn, 0, none⟩)] (fun x : Fin (cnt len c) => #[chunkAt b off len c x.val]) Kp (fun ys => ys.map (·.val) = List.range (cnt len c)) (fun pre => ∃ k, k ≤ cnt len c ∧ pre.map (·.val) = List.range k) (cnt len c) w := fun l J Jx W hW hJ hJx hY h0 => by
 have hs := (hW.cell (p := ⟨Bs, 0, none⟩) (World.block_lt_of_cell? _ _ hBs)).trans hBs
 have hn' := (hW.cell (p := ⟨Bn, 0, none⟩) (World.block_lt_of_cell? _ _ hBn)).trans hBn
 rcases Nat.eq_zero_or_pos len with h | h
 ·subst h
  have hcnt : cnt 0 c = 0 := by
   rcases Nat.eq_zero_or_pos (cnt 0 c) with h | h
   ·exact h
   ·exact absurd ((cnt_lt hc1).1 h) (by omega)
  exact (chunk0_in n l Bs Bn p cap J W hs h0).mono fun e W' ⟨he, hj⟩ => ⟨he, .inl ⟨_, by rw [hcnt]; rfl, hj⟩⟩
 ·rw [hp h] at hs
  exact chunk1_in n hn l Bs Bn b off len cap c hc1 hc2 hlc hl Kp hKs hKn J Jx hY W hs hn' h0 (fun pre A m hj => abides_drewN hJ m hj)
end Go.Proofs.YtdfahddpkkeldaaGreat

/- slices.Chunk at []byte: what its iterator does, for every loop body that keeps its two boxes. -/
import Derived.Test.YtjilbnpehgigjaaGreatRdB
import Derived.RangeFuncNested
import Derived.RangeFuncBound
import Derived.RangeFuncCalls
import Derived.RangeFuncLeaves
import Derived.Shelf.Abstract
import Derived.Shelf.RegionOpen
import Derived.OwnWalkIn
import Derived.TacticsInMore
import Derived.LoopNIn
import Derived.LoopIn
import Derived.Sort.QuietIn
import Derived.RangeFuncFrom
namespace Go.Proofs.YtjilbnpehgigjaaGreat
open Go.RowKit Go.Shelf
attribute [local go_sem] Oper.semAt_some

def cnt (len c : Nat) : Nat := (len + (c - 1)) / c
theorem cnt_lt {len c k : Nat} (hc : 1 ≤ c) : k < cnt len c ↔ c * k < len := by
  unfold cnt
  constructor
  · intro h
    have h1 : (k + 1) * c ≤ len + (c - 1) := by
      have := (Nat.le_div_iff_mul_le (by omega)).1 (show k + 1 ≤ (len + (c - 1)) / c from h)
      exact this
    rw [Nat.add_mul, Nat.one_mul, Nat.mul_comm] at h1
    omega
  · intro h
    have : k + 1 ≤ (len + (c - 1)) / c := by
      rw [Nat.le_div_iff_mul_le (by omega), Nat.add_mul, Nat.one_mul, Nat.mul_comm k c]
      omega
    exact this
/-- the k-th chunk -/
def chunkAt (b off len c k : Nat) : Value := .slice (some ⟨b, off + c * k, none⟩) (min c (len - c * k)) (min c (len - c * k))
set_option maxRecDepth 100000 in
set_option maxHeartbeats 2000000 in
theorem chunk1_in (n : Nat) (hn : 1 ≤ n) (l Bs Bn b off len cap c : Nat) (hc1 : 1 ≤ c) (hc2 : c ≤ 1048576) (hlc : len ≤ cap) (hl : len ≤ 1099511627776) (Kp : World → World → Prop)
    (hKs : ∀ A B v, Kp A B → A.cell? ⟨Bs, 0, none⟩ = some v → B.cell? ⟨Bs, 0, none⟩ = some v) (hKn : ∀ A B v, Kp A B → A.cell? ⟨Bn, 0, none⟩ = some v → B.cell? ⟨Bn, 0, none⟩ = some v) (J Jx : List (Fin (cnt len c)) → World → Prop)
    (hY : ∀ pre x W, J pre W → pre.length < cnt len c → YieldAt Fence.wide (n - 1) Tryz.prog l #[chunkAt b off len c x.val] W fun e W' =>
      (e = .returned (.bool true) ∧ J (pre ++ [x]) W' ∧ Kp W W') ∨ (e = .returned (.bool false) ∧ Jx (pre ++ [x]) W'))
    (W : World) (hBs : W.cell? ⟨Bs, 0, none⟩ = some (.slice (some ⟨b, off, none⟩) len cap)) (hBn : W.cell? ⟨Bn, 0, none⟩ = some (.int .i64 c)) (h0 : J [] W) (hJd : ∀ pre A m, J pre A → J pre (A.drewN m)) :
    CallsIn Fence.wide n Tryz.prog 119 #[.func (.yield l) #[] #[], .pointer (some ⟨Bs, 0, none⟩), .pointer (some ⟨Bn, 0, none⟩)] W fun e W' => (∃ v, e = .returned v) ∧
      ((∃ ys, ys.map (·.val) = List.range (cnt len c) ∧ J ys W') ∨ (∃ pre, (∃ k, k ≤ cnt len c ∧ pre.map (·.val) = List.range k) ∧ Jx pre W')) := by
  refine callsIn_of_wp Tryz.func119 rfl trivial ?_ rfl
  simp only [Tryz.ntmps119, List.size_toArray, List.length_cons, List.length_nil, Nat.reduceAdd, Nat.reduceSub, Array.replicate_succ, Array.replicate_zero, List.push_toArray, List.append_toArray, List.nil_append, List.cons_append]
  gi_wp2
  gi_loopw [4] (fun i wr => ∃ (k : Nat) (pre : List (Fin (cnt len c))), k ≤ cnt len c ∧ pre.map (·.val) = List.range k ∧ i = .int .i64 (c * k : Nat) ∧ J pre wr ∧ wr.cell? ⟨Bs, 0, none⟩ = some (.slice (some ⟨b, off, none⟩) len cap) ∧ wr.cell? ⟨Bn, 0, none⟩ = some (.int .i64 c))
    (fun i _ => len - (intOf i).toNat)
  case atStart => exact ⟨0, [], Nat.zero_le _, rfl, by simp, h0, hBs, hBn⟩
  case round =>
    obtain ⟨k, pre, hk, hpre, rfl, hJs, hs, hn'⟩ := hrel
    have hplen : pre.length = k := by have := congrArg List.length hpre; simpa using this
    have HPRE := Lib.hid hpre
    clear hpre
    by_cases hlt : k < cnt len c
    · have hkl := (cnt_lt hc1).1 hlt
      obtain ⟨i, hi⟩ : ∃ i, c * k = i := ⟨_, rfl⟩
      obtain ⟨E, hE⟩ : ∃ E, min c (len - i) = E := ⟨_, rfl⟩
      have hi2 : i < len := by omega
      have hE1 : E ≤ c := by omega
      have hE2 : i + E ≤ len := by omega
      have hmin : (if len - i < c then ((len - i : Nat) : Int) else (c : Int)) = (E : Int) := by split <;> omega
      rw [hi]
      gi_wp2
      gi_quiet (fail)
      obtain ⟨fn, tmps, assign, body, hy, hR⟩ := hY _ ⟨k, hlt⟩ (wr.drewN nq) (hJd _ _ _ hJs) (by rw [hplen]; exact hlt)
      simp only [chunkAt, hi, hE] at hy
      have hs2 : (wr.drewN nq).cell? ⟨Bs, 0, none⟩ = some (.slice (some ⟨b, off, none⟩) len cap) := hs
      have hn2 : (wr.drewN nq).cell? ⟨Bn, 0, none⟩ = some (.int .i64 c) := hn'
      have hHR := Lib.hid hR
      clear hs hn' hR
      generalize wr.drewN nq = w1 at hy hs2 hn2 hHR ⊢
      gi_wp2
      refine hHR.out.mono ?_
      rintro e W3 (⟨rfl, hJ3, hk3⟩ | ⟨rfl, hJx3⟩)
      · have hs3 := hKs _ _ _ hk3 hs2
        have hn3 := hKn _ _ _ hk3 hn2
        gi_wp2
        go_roundw
        case rel => exact ⟨k + 1, pre ++ [⟨k, hlt⟩], by omega, by rw [List.map_append, HPRE.out, List.range_succ]; rfl, by rw [Nat.mul_add, hi, Nat.mul_one]; simp, hJ3, hs3, hn3⟩
        case measure => simp [intOf]; omega
      · gi_wp2
        refine bodyPost_ret (results_none rfl _ _ _) rfl ?_
        exact ⟨⟨_, rfl⟩, .inr ⟨_, ⟨k + 1, by omega, by rw [List.map_append, HPRE.out, List.range_succ]; rfl⟩, hJx3⟩⟩
    · obtain rfl : k = cnt len c := by omega
      have hkl : ¬ c * cnt len c < len := fun h => hlt ((cnt_lt hc1).2 h)
      obtain ⟨i, hi⟩ : ∃ i, c * cnt len c = i := ⟨_, rfl⟩
      rw [hi] at hkl ⊢
      gi_wp2
      go_end0
      exact ⟨⟨_, rfl⟩, .inl ⟨_, HPRE.out, hJs⟩⟩
theorem abides_drewN {β : Type} {B : Nat} {J : β → World → Prop} (h : AbidesFrom B J) {s : β} {W : World} (m : Nat) (hs : J s W) : J s (W.drewN m) :=
  h s W _ none hs ⟨rfl, rfl, rfl, Nat.le_refl _, fun _ _ _ => rfl⟩ (fun r e => by cases e)
set_option maxRecDepth 100000 in
/-- no byte: no round -/
theorem chunk0_in (n : Nat) (l Bs Bn : Nat) (p : Option Addr) (cap : Nat) {α : Type} (J : List α → World → Prop) (W : World) (hBs : W.cell? ⟨Bs, 0, none⟩ = some (.slice p 0 cap)) (h0 : J [] W) :
    CallsIn Fence.wide n Tryz.prog 119 #[.func (.yield l) #[] #[], .pointer (some ⟨Bs, 0, none⟩), .pointer (some ⟨Bn, 0, none⟩)] W fun e W' => (∃ v, e = .returned v) ∧ J [] W' := by
  refine callsIn_of_wp Tryz.func119 rfl trivial ?_ rfl
  simp only [Tryz.ntmps119, List.size_toArray, List.length_cons, List.length_nil, Nat.reduceAdd, Nat.reduceSub, Array.replicate_succ, Array.replicate_zero, List.push_toArray, List.append_toArray, List.nil_append, List.cons_append]
  gi_wp2
  gi_loopw [4] (fun i wr => i = .int .i64 0 ∧ J [] wr ∧ wr.cell? ⟨Bs, 0, none⟩ = some (.slice p 0 cap)) (fun _ _ => 0)
  case atStart => exact ⟨rfl, h0, hBs⟩
  case round =>
    obtain ⟨rfl, hJs, hs⟩ := hrel
    gi_wp2
    go_end0
    exact ⟨⟨_, rfl⟩, hJs⟩
set_option maxRecDepth 100000 in
/-- slices.Chunk(s, c): the slice and the number are boxed; the function value captures the boxes -/
theorem chunk_call (p : Option Addr) (len cap c : Nat) (hc : 1 ≤ c) (w : World) :
    Calls Tryz.prog 105 #[.slice p len cap, .int .i64 c] w fun e w' => e = .returned (.func (.func 119) #[] #[.pointer (some ⟨w.heap.size, 0, none⟩), .pointer (some ⟨w.heap.size + 1, 0, none⟩)]) ∧ w' = (w.alloc (.cells #[.slice p len cap] 22)).alloc (.cells #[.int .i64 c] 3) := by
  have hmf : ∀ (fn : Fn) (first cap : Array Value) (w : World), (Instr.makeFunc fn first cap).run Tryz.prog w = .ok (.func fn first cap) w := fun _ _ _ _ => rfl
  have hci : ¬ ((c : Int) < 1) := by omega
  go_enter Tryz.func105, Tryz.ntmps105
  go_wp2_with fail
  go_ret
  exact ⟨rfl, rfl⟩
/-- the bytes of a slice as its chunks: which, and how many -/
theorem chunk_stops (n : Nat) (hn : 1 ≤ n) (Bs Bn b off len cap c : Nat) (p : Option Addr) (hp : 0 < len → p = some ⟨b, off, none⟩) (hc1 : 1 ≤ c) (hc2 : c ≤ 1048576) (hlc : len ≤ cap) (hl : len ≤ 1099511627776) (Kp : World → World → Prop)
    (hKs : ∀ A B v, Kp A B → A.cell? ⟨Bs, 0, none⟩ = some v → B.cell? ⟨Bs, 0, none⟩ = some v) (hKn : ∀ A B v, Kp A B → A.cell? ⟨Bn, 0, none⟩ = some v → B.cell? ⟨Bn, 0, none⟩ = some v) (w : World)
    (hBs : w.cell? ⟨Bs, 0, none⟩ = some (.slice p len cap)) (hBn : w.cell? ⟨Bn, 0, none⟩ = some (.int .i64 c)) :
    SeqStopsK Fence.wide n Tryz.prog 119 #[.pointer (some ⟨Bs, 0, none⟩), .pointer (some ⟨Bn, 0, none⟩)] (fun x : Fin (cnt len c) => #[chunkAt b off len c x.val]) Kp (fun ys => ys.map (·.val) = List.range (cnt len c)) (fun pre => ∃ k, k ≤ cnt len c ∧ pre.map (·.val) = List.range k) (cnt len c) w := fun l J Jx W hW hJ hJx hY h0 => by
  have hs := (hW.cell (p := ⟨Bs, 0, none⟩) (World.block_lt_of_cell? _ _ hBs)).trans hBs
  have hn' := (hW.cell (p := ⟨Bn, 0, none⟩) (World.block_lt_of_cell? _ _ hBn)).trans hBn
  rcases Nat.eq_zero_or_pos len with h | h
  · subst h
    have hcnt : cnt 0 c = 0 := by
      rcases Nat.eq_zero_or_pos (cnt 0 c) with h | h
      · exact h
      · exact absurd ((cnt_lt hc1).1 h) (by omega)
    exact (chunk0_in n l Bs Bn p cap J W hs h0).mono fun e W' ⟨he, hj⟩ => ⟨he, .inl ⟨_, by rw [hcnt]; rfl, hj⟩⟩
  · rw [hp h] at hs
    exact chunk1_in n hn l Bs Bn b off len cap c hc1 hc2 hlc hl Kp hKs hKn J Jx hY W hs hn' h0 (fun pre A m hj => abides_drewN hJ m hj)
end Go.Proofs.YtjilbnpehgigjaaGreat

/- A range over a function, in a function that is called from anywhere: what a walk wants beside the kit's law. -/
namespace Go.Proofs.YtjilbnpehgigjaaGreat
open Go.RowKit

/-- a fact on blocks below B is kept by what the loop's own books turn -/
theorem ownFrom_of {β : Type} {B : Nat} {I : β → World → Prop} (h : ∀ s W W', I s W → Mod (fun k => B ≤ k) W W' → I s W') : OwnFrom B I := fun s W W' _ hs hg hr =>
  h s W W' hs ⟨hg.os, hg.tape, hg.output, hg.size, fun k hk hn => hg.block k hk (fun e => hn (hr k e.symm).1)⟩
theorem mod_putObj {S : Nat → Prop} (W : World) (l : Nat) (o' : Obj) (hS : S l) : Mod S W (W.putObj l o') := by
  have hg := grownBy_putObj' W l o'
  exact ⟨hg.os, hg.tape, hg.output, hg.size, fun k hk hn => hg.block k hk (fun e => by cases e; exact hn hS)⟩
theorem keepsOthers_of {S : Nat → Prop} {W W' : World} (m : Mod S W W') (h : ∀ k o, S k → W.heap[k]? = some o → o.isCells = true) : KeepsOthers W W' :=
  ⟨m.size, fun k o ho hc => (m.block k (heap_lt ho) (fun hs => by rw [h k o hs ho] at hc; cases hc)).trans ho⟩
/-- a function whose body holds a range over a function -/
theorem calls_over {P : Program} {f : FuncId} {fn : Func} {c : Code} {args : Array Value} {w : World} {R : Ending → World → Prop} (hf : P.funcs[f]? = some fn) (hb : fn.body = some c)
    (h : c.wp P (bodyPostM Fence.wide 9 P fn R) { tmps := args ++ Array.replicate (fn.ntmps - args.size) undef, defers := [] } w) : Calls P f args w R :=
  callsIn_wide.1 (callsIn_of_wp_marks hf hb trivial (wpIn_wide.2 h) rfl)
/-- an operation that is no defer is carried out in a round as anywhere -/
theorem opIn_round {P : Program} {l n : Nat} {o : Oper} {a : Act} {w : World} {K : Act → World → Prop} {Q : Exit → Act → World → Prop} (hd : ∀ c, o.op ≠ .defer c) (h : o.wp P a w K Q) : o.wpIn (Fence.wide.inRound l) n P a w K Q := by
  refine ⟨fun _ _ => trivial, ?_⟩
  unfold Oper.wp at h
  rw [Oper.semAt_eq _ _ _ hd]
  generalize (execOp a.eval o).run P w = r at h ⊢
  cases r with
  | ok x w' =>
    cases x with
    | value v => exact h
    | skip => exact h
    | defer d => exact h
    | enter f args => exact ⟨fun e => (by cases e), CallsIn.inRound l (callsIn_wide.2 h)⟩
    | row row args => exact ⟨fun e => (by cases e), fun c cs _ => let ⟨v, w', r, s⟩ := h c cs; ⟨v, w', r, stepsIn_wide.2 s⟩⟩
    | _ => exact h.elim
  | halt x w' =>
    cases x with
    | panic v => exact h
    | _ => exact h.elim
def noDefer (ops : Array Oper) : Bool := ops.all (fun o => match o.op with | .defer _ => false | _ => true)
theorem noDefer_at {ops : Array Oper} (h : noDefer ops = true) {i : Nat} {o : Oper} (ho : ops[i]? = some o) : ∀ c, o.op ≠ .defer c := by
  intro c e
  unfold noDefer at h
  rw [Array.all_eq_true'] at h
  have := h o (Array.mem_of_getElem? ho)
  rw [e] at this
  cases this
theorem anyIn_round {P : Program} {l n : Nat} {ops : Array Oper} {Q : Exit → Act → World → Prop} {md : Region.Mode} (hd : noDefer ops = true) (hl : ¬ LetsOut Q) : ∀ (f : Nat) (listed : Array Bool) (a : Act) (w : World), wpAny P md ops Q f listed a w → wpAnyIn (Fence.wide.inRound l) n P md ops Q f listed a w
  | 0, _, _, _, h => h
  | f + 1, listed, a, w, h => ⟨h.1, fun i hi => by
    have h2 := h.2 i hi
    unfold wpOp at h2
    unfold wpOpIn
    split
    · rename_i hn
      rw [hn] at h2
      exact anyIn_round hd hl f _ _ _ h2
    · rename_i o ho
      rw [ho] at h2
      simp only at h2
      split
      · rename_i hw
        rw [if_pos hw] at h2
        exact Oper.wpIn_mono (fun a' w' h' => anyIn_round hd hl f _ a' w' h') (opIn_round (noDefer_at hd ho) (h2.resolve_right (fun h => hl h.2)))
      · rename_i hw
        rw [if_neg hw] at h2
        exact ⟨fun _ _ => trivial, anyIn_round hd hl f _ _ _ h2⟩⟩
/-- a region that draws its order, in a round -/
theorem region_round {P : Program} {l n id : Nat} {ops : Array Oper} {Q : Exit → Act → World → Prop} {a : Act} {w : World} (hm : P.follows .mixedOrders = true) (hd : noDefer ops = true) (hl : ¬ LetsOut Q)
    (h : wpAny P .any ops Q ops.size (Array.replicate ops.size false) a w.drew) : (Code.region id ops true).wpIn (Fence.wide.inRound l) n P Q a w :=
  wpIn_region_any hm (anyIn_round hd hl _ _ _ _ h)
theorem IsVec.modCells {S T : Nat → Prop} {w w' : World} {E : TypeId} {sz n : Nat} {v : Value} {xs : List Value} (h : IsVec S w E sz v n xs) (m : Mod T w w') (hT : ∀ k o, w.heap[k]? = some o → o.isCells = true → ¬ (T k ∧ S k)) : IsVec S w' E sz v n xs := by
  obtain ⟨⟨hl, h1⟩, h2⟩ := h
  refine ⟨⟨hl, ?_⟩, h2⟩
  rcases h1 with h1 | ⟨g, cap, cur, rfl, hg, hh, r⟩
  · exact .inl h1
  · exact .inr ⟨g, cap, cur, rfl, hg, (m.block g (heap_lt hh) (fun ht => hT g _ hh rfl ⟨ht, h2 g rfl⟩)).trans hh, r⟩
theorem IsVec.own {S : Nat → Prop} {w : World} {E : TypeId} {sz n : Nat} {v : Value} {xs : List Value} (h : IsVec S w E sz v n xs) : IsVec (fun k => v.ownBlock = some k) w E sz v n xs := ⟨h.1, fun _ h => h⟩
theorem IsVec.others {S : Nat → Prop} {w w' : World} {E : TypeId} {sz n : Nat} {v : Value} {xs : List Value} (h : IsVec S w E sz v n xs) (m : Mod (fun k => v.ownBlock = some k) w w') : KeepsOthers w w' := by
  obtain ⟨⟨hl, h1⟩, h2⟩ := h
  refine keepsOthers_of m (fun k o hk ho => ?_)
  rcases h1 with ⟨rfl, rfl⟩ | ⟨g, cap, cur, rfl, hg, hh, r⟩
  · simp [Value.ownBlock] at hk
  · simp [Value.ownBlock] at hk
    subst hk
    rw [hh] at ho
    cases ho
    rfl
theorem IsVec.ownCells {S : Nat → Prop} {w : World} {E : TypeId} {sz n : Nat} {v : Value} {xs : List Value} (h : IsVec S w E sz v n xs) {k : Nat} {o : Obj} (hk : v.ownBlock = some k) (ho : w.heap[k]? = some o) : o.isCells = true := by
  obtain ⟨⟨hl, h1⟩, h2⟩ := h
  rcases h1 with ⟨rfl, rfl⟩ | ⟨g, cap, cur, rfl, hg, hh, r⟩
  · simp [Value.ownBlock] at hk
  · simp [Value.ownBlock] at hk
    subst hk
    rw [hh] at ho
    cases ho
    rfl
/-- as ownFrom_of, but what turns is no cells -/
theorem ownFrom_cells {β : Type} {B : Nat} {I : β → World → Prop} (h : ∀ s W W', I s W → Mod (fun k => B ≤ k ∧ ∃ o, W.heap[k]? = some o ∧ o.isCells = false) W W' → I s W') : OwnFrom B I := fun s W W' _ hs hg hr =>
  h s W W' hs ⟨hg.os, hg.tape, hg.output, hg.size, fun k hk hn => hg.block k hk (fun e => hn (hr k e.symm))⟩
/-- the builtin 'append' whose run is known, in a round -/
theorem wpListIn_append_run {F : Fence} {n : Nat} {P : Program} {ops : Array Oper} {rest : List Oper} {o : Oper} {a : Act} {Q : Exit → Act → World → Prop} {w w' : World} {v xv v' : Value} (hgd : o.guard = none) (s x : Operand) (t u : TypeId)
    (ho : o.op = .call { callee := .builtin .append, args := #[s, x], argTypes := #[t, u] }) (hs : a.eval s = v) (hx : a.eval x = xv)
    (hrun : (Builtin.append_ #[t, u] o.type #[v, xv]).run P w = .ok v' w') (h : wpListIn F n P ops Q rest (a.put o.dst v') w') : wpListIn F n P ops Q (o :: rest) a w := by
  refine wpListIn_plain hgd fun K hK => ?_
  unfold Oper.wpIn
  refine ⟨by simp [Oper.about, ho, resolve, Target.leads, Sem.run_pure], ?_⟩
  rw [Oper.semAt_plain F _ _ (by rw [ho]; intro c hc'; cases hc')]
  simp [execOp, ho, resolve, invoke, builtin, hs, hx, hrun, Result.andThen]
  exact hK _ _ h
end Go.Proofs.YtjilbnpehgigjaaGreat

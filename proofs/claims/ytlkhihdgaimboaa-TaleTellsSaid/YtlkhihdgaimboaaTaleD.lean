/- Package tale: Small, with slices.Repeat. -/
import Derived.Test.YtlkhihdgaimboaaTaleC
import Derived.Laws.IdiomCopy
namespace Go.Proofs.Ytlkhihdgaimboaa
open Go.RowKit

theorem bitsMul (x y : Nat) (hx : x < 18446744073709551616) (hy : y < 18446744073709551616) (w : World) : Calls Try.prog 35 #[.int .u64 x, .int .u64 y] w fun e w' => e = .returned (.tuple #[.int .u64 ((x * y / 18446744073709551616 : Nat) : Int), .int .u64 ((x * y % 18446744073709551616 : Nat) : Int)]) ∧ w' = w := by
  have hm := Try.bits_Mul64 x y hx hy w
  obtain ⟨hi, hhi⟩ : ∃ h, x * y / 18446744073709551616 = h := ⟨_, rfl⟩
  obtain ⟨lo, hlo⟩ : ∃ h, x * y % 18446744073709551616 = h := ⟨_, rfl⟩
  rw [hhi, hlo] at hm ⊢
  have HM := Lib.hid hm
  clear hm hhi hlo
  go_enter Try.func35, Try.ntmps35
  go_wp2_with fail
  refine HM.out.mono ?_
  rintro e w1 ⟨rfl, rfl⟩
  go_wp2_with fail
  refine bodyPost_ret (results_tmp2 rfl _ _ _) rfl ?_
  exact ⟨rfl, rfl⟩
theorem info_int : (Try.prog.info? 3).map (fun i => (i.zero, i.size, i.bytes)) = some (some (.int .i64 0), 1, 8) := by kernel_rfl
theorem wpList_copy_run {P : Program} {ops : Array Oper} {rest : List Oper} {o : Oper} {a : Act} {Q : Exit → Act → World → Prop} {w w' : World} {v xv v' : Value} (hgd : o.guard = none) (s x : Operand) (t u : TypeId)
    (ho : o.op = .call { callee := .builtin .copy, args := #[s, x], argTypes := #[t, u] }) (hs : a.eval s = v) (hx : a.eval x = xv)
    (hrun : (Builtin.copy_ #[t, u] o.type #[v, xv]).run P w = .ok v' w') (h : wpList P ops Q rest (a.put o.dst v') w') : wpList P ops Q (o :: rest) a w :=
  wpList_plain hgd fun _ hK => by
    unfold Oper.wp execOp
    simp only [ho, resolve, invoke, builtin, Sem.run_bind, Sem.run_pure, Result.andThen_ok, List.map_toArray, List.map_cons, List.map_nil, hs, hx, hrun]
    exact hK _ _ h
set_option maxRecDepth 100000 in
theorem repeatTwo (b c : Nat) (x : Int) (w : World) (hb : w.cell? ⟨b, 0, none⟩ = some (.int .i64 x)) : Calls Try.prog 25 #[.slice (some ⟨b, 0, none⟩) 1 c, .int .i64 2] w fun e w' => ∃ g, e = .returned (.slice (some ⟨g, 0, none⟩) 2 2) ∧ w.heap.size ≤ g ∧ w'.heap[g]? = some (.cells #[.int .i64 x, .int .i64 x] 3 (0, 0)) ∧ Mod nil w w' := by
  refine (?_ : ∀ Post : Ending → World → Prop, Hid (∀ e w', (∃ g, e = .returned (.slice (some ⟨g, 0, none⟩) 2 2) ∧ w.heap.size ≤ g ∧ w'.heap[g]? = some (.cells #[.int .i64 x, .int .i64 x] 3 (0, 0)) ∧ Mod nil w w') → Post e w') → Calls Try.prog 25 #[.slice (some ⟨b, 0, none⟩) 1 c, .int .i64 2] w Post) _ (Lib.hid (fun _ _ h => h))
  intro Post HPOST
  have hm := bitsMul 1 2 (by omega) (by omega) w
  simp only [Nat.reduceMul, Nat.reduceMod, Nat.reduceDiv] at hm
  have HM := Lib.hid hm
  have HB := Lib.hid hb
  clear hm hb
  go_enter Try.func25, Try.ntmps25
  go_wp2_with fail
  refine HM.out.mono ?_
  rintro e w1 ⟨rfl, rfl⟩
  obtain ⟨g, hg⟩ : ∃ g, w1.heap.size = g := ⟨_, rfl⟩
  have hmk : (Instr.makeSlice 27 (.int .i64 2) (.int .i64 2)).run Try.prog w1 = .ok (.slice (some ⟨g, 0, none⟩) 2 2) (w1.alloc (.cells #[.int .i64 0, .int .i64 0] 3)) := by
    obtain ⟨i0, hi, hz0, hz1, hz2⟩ := info_parts info_int
    rw [← hg]
    exact run_make_one (P := Try.prog) 27 3 i0 (.int .i64 0) 8 Try.underlying27 hi hz0 hz1 hz2 rfl 2 (by omega) (by unfold maxLen; omega) w1
  obtain ⟨w2, hw2⟩ : ∃ w2, w1.alloc (.cells #[.int .i64 0, .int .i64 0] 3) = w2 := ⟨_, rfl⟩
  have hb2 : w2.heap[g]? = some (.cells #[.int .i64 0, .int .i64 0] 3 (0, 0)) := by rw [← hw2, ← hg]; exact heap_alloc_new _ _
  have hm2 : Mod nil w1 w2 := by rw [← hw2]; exact (Mod.refl _ _).alloc _
  have hsrc : w2.cell? ⟨b, 0, none⟩ = some (.int .i64 x) := cell_kept HB.out hm2 (World.block_lt_of_cell? _ _ HB.out) (not_nil _)
  have hsz : (Try.prog.info? 3).map (·.size) = some 1 := by
    obtain ⟨i0, hi, hz0, hz1, hz2⟩ := info_parts info_int
    rw [hi]; simp [hz1]
  have hcp := run_copy_cells (P := Try.prog) w2 27 27 3 3 g 0 2 2 ⟨b, 0, none⟩ 1 c [.int .i64 x] Try.underlying27 hsz rfl
    (fun j v hj => by
      have h0 : j = 0 := by have := (List.getElem?_eq_some_iff.1 hj).1; simpa using this
      subst h0
      simp only [List.getElem?_cons_zero, Option.some.injEq] at hj
      subst hj
      exact hsrc)
    (fun j hj => by
      have h0 : j = 0 := by simpa using hj
      subst h0
      rw [cell_of hb2]; rfl)
    (fun j hj => free_of hb2 _) (by simp [Value.oneCell'])
  rw [hw2] at hmk
  obtain ⟨w3, hw3⟩ : ∃ w3, w2.setCells g 0 [.int .i64 x] = w3 := ⟨_, rfl⟩
  rw [hw3] at hcp
  have hb3 : w3.heap[g]? = some (.cells #[.int .i64 x, .int .i64 0] 3 (0, 0)) := by rw [← hw3]; exact heap_setCell_same hb2 _
  have hm3 : Mod nil w1 w3 := by rw [← hw3]; exact hm2.trans ((Mod.refl (· = g) w2).setCell _ _ (fun _ => rfl)) (fun k hk h => by omega)
  have HMK := Lib.hid hmk
  have HCP : Hid ((Builtin.copy_ #[27, 27] 3 #[.slice (some ⟨g, 0, none⟩) 2 2, .slice (some ⟨b, 0, none⟩) 1 c]).run Try.prog w2 = .ok (.int .i64 1) w3) := Lib.hid hcp
  have HB3 := Lib.hid hb3
  have HM3 := Lib.hid hm3
  have HG : Hid (w1.heap.size = g) := Lib.hid hg
  clear hg hmk hw2 hb2 hm2 hsrc hcp hw3 hb3 hm3
  go_upto_region 7 with (fail)
  rw [HMK.out]
  simp only [Result.andThen_ok]
  go_wp2_with fail
  rw [HCP.out]
  simp only [Result.andThen_ok]
  go_wp2_with fail
  go_loopw [8] (fun v8 wr => (v8 = .int .i64 1 ∧ wr = w3) ∨ (v8 = .int .i64 2 ∧ wr.heap[g]? = some (.cells #[.int .i64 x, .int .i64 x] 3 (0, 0)) ∧ Hid (Mod nil w1 wr))) (fun v _ => 2 - (intOf v).toNat)
  case atStart => exact .inl ⟨rfl, rfl⟩
  case round =>
    rcases hrel with ⟨rfl, rfl⟩ | ⟨rfl, hbr, HMR⟩
    · have hcs : wr.drew.heap[g]? = some (.cells #[.int .i64 x, .int .i64 0] 3 (0, 0)) := HB3.out
      have hsrc : ∀ j y, ([.int .i64 x] : List Value)[j]? = some y → wr.drew.cell? ((⟨g, 0, none⟩ : Addr).add j) = some y := fun j y hj => by
        have h0 : j = 0 := by have := (List.getElem?_eq_some_iff.1 hj).1; simpa using this
        subst h0
        exact (cell_of hcs 0).trans hj
      have HSRC := Lib.hid hsrc
      clear hcs hsrc
      go_upto_region 9 with (fail)
      go_region_held3 (fun _ => True) (trivial) (first
        | (refine step_copy_splice rfl (.tmp 41) (.tmp 44) 27 27 rfl 3 Try.underlying27 hsz _ _ 1 1 1 2 rfl rfl g 1 [.int .i64 x, .int .i64 0] 3 HB3.out [.int .i64 x] rfl (fun _ => ⟨rfl, _, rfl, HSRC.out⟩) (by simp) (by simp [Value.oneCell']) g wr.drew (Below.refl _ _) (Nat.le_refl _) ?_; intro w7 hg7 hb7))
      have hb8 : w7.heap[g]? = some (.cells #[.int .i64 x, .int .i64 x] 3 (0, 0)) := hg7.out
      have hm8 : Hid (Mod nil w1 w7) := Lib.hid (HM3.out.trans (T := (g ≤ ·)) ⟨hb7.os, hb7.tape, hb7.output, hb7.size, fun k _ hk => hb7.block k (by omega)⟩ (fun k hk h => by have := HG.out; omega))
      have hwr : IntKind.i64.wrap 2 = 2 := by rw [IntKind.wrap_i64]; omega
      go_wp2_with fail
      exact ⟨.inr ⟨rfl, hb8, hm8⟩, by simp [intOf, hwr]⟩
    · have HEND : Hid (Post (.returned (.slice (some ⟨g, 0, none⟩) 2 2)) wr) := Lib.hid (HPOST.out _ _ ⟨g, rfl, by have := HG.out; omega, hbr, HMR.out⟩)
      go_wp2_with fail
      exact HEND.out
/-- rows of two thousands, new since S -/
def Starts (S : Nat → Prop) (w : World) (v : Value) (n : Nat) : Prop := ∃ xs, IsVec S w 27 1 v n xs ∧ ∀ x ∈ xs, ∃ g, x = .slice (some ⟨g, 0, none⟩) 2 2 ∧ w.heap[g]? = some (.cells #[.int .i64 1000, .int .i64 1000] 3 (0, 0)) ∧ S g
theorem Starts.nil (S : Nat → Prop) (w : World) : Starts S w (.slice none 0 0) 0 := ⟨[], IsVec.nil _ _ _ _, fun x h => by cases h⟩
theorem Starts.form {S : Nat → Prop} {w : World} {v : Value} {n : Nat} (h : Starts S w v n) : ∃ p c, v = .slice p n c := by obtain ⟨xs, h, _⟩ := h; exact h.form
theorem Starts.mod {S T : Nat → Prop} {w w' : World} {v : Value} {n : Nat} (h : Starts S w v n) (m : Mod T w w') (hs : ∀ k, k < w.heap.size → S k → ¬ T k) : Starts S w' v n := by
  obtain ⟨xs, h1, h2⟩ := h
  refine ⟨xs, h1.mod m hs, fun x hx => ?_⟩
  obtain ⟨g, h3, h4, h5⟩ := h2 x hx
  exact ⟨g, h3, (m.block g (heap_lt h4) (hs g (heap_lt h4) h5)).trans h4, h5⟩
theorem Starts.mono {S T : Nat → Prop} {w : World} {v : Value} {n : Nat} (h : Starts S w v n) (hs : ∀ k, k < w.heap.size → S k → T k) : Starts T w v n := by
  obtain ⟨xs, h1, h2⟩ := h
  refine ⟨xs, h1.mono hs, fun x hx => ?_⟩
  obtain ⟨g, h3, h4, h5⟩ := h2 x hx
  exact ⟨g, h3, h4, hs g (heap_lt h4) h5⟩
/-- one more row -/
theorem starts_snoc {S : Nat → Prop} {w0 w w' : World} {v v' : Value} {n g : Nat} {xs : List Value} (h1 : IsVec S w0 27 1 v n xs) (h2 : ∀ x ∈ xs, ∃ g, x = .slice (some ⟨g, 0, none⟩) 2 2 ∧ w0.heap[g]? = some (.cells #[.int .i64 1000, .int .i64 1000] 3 (0, 0)) ∧ S g)
    (m0 : Mod Go.Proofs.Ytlkhihdgaimboaa.nil w0 w) (hg : w.heap[g]? = some (.cells #[.int .i64 1000, .int .i64 1000] 3 (0, 0))) (hS : S g)
    (h3 : IsVec (fun k => v.ownBlock = some k ∨ w.heap.size ≤ k) w' 27 1 v' (n + 1) (xs ++ [.slice (some ⟨g, 0, none⟩) 2 2])) (h4 : Mod (fun k => v.ownBlock = some k) w w') (hn : ∀ k, w.heap.size ≤ k → S k) : Starts S w' v' (n + 1) := by
  have h1' := h1.modNil m0
  have hkeep : ∀ k : Nat, w.heap[k]? = some (.cells #[.int .i64 1000, .int .i64 1000] 3 (0, 0)) → w'.heap[k]? = some (.cells #[.int .i64 1000, .int .i64 1000] 3 (0, 0)) := fun k hk => by
    refine (h4.block k (heap_lt hk) (fun ho => ?_)).trans hk
    rcases h1'.1.2 with ⟨rfl, _⟩ | ⟨g', cap, cur, rfl, _, hh, _⟩
    · simp [Value.ownBlock] at ho
    · simp [Value.ownBlock] at ho
      subst ho
      rw [hk] at hh
      cases hh
  refine ⟨_, h3.mono (fun k _ hk => hk.elim (h1.2 k) (hn k)), fun x hx => ?_⟩
  rcases List.mem_append.1 hx with hx | hx
  · obtain ⟨k, h5, h6, h7⟩ := h2 x hx
    exact ⟨k, h5, hkeep k (m0.keep h6), h7⟩
  · obtain rfl := List.mem_singleton.1 hx
    exact ⟨g, rfl, hkeep g hg, hS⟩
theorem info_ints : (Try.prog.info? 27).map (fun i => (i.zero, i.size, i.bytes)) = some (some (.slice none 0 0), 1, 24) := by kernel_rfl
end Go.Proofs.Ytlkhihdgaimboaa

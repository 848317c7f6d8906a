/- Package plan: copies, Make. (Printed by wip/tools/gen_pland.py.) -/
import Derived.Test.YtdfpmlfdmhlhcaaGreatPlanC
import Derived.Test.YtdfpmlfdmhlhcaaGreatTailB
namespace Go.Proofs.YtdfpmlfdmhlhcaaGreat
open Go.RowKit
theorem info_item3 : (Tryz.prog.info? 135).map (fun i => (i.zero, i.size, i.bytes)) = some (some (.agg #[.int .i64 0, .int .i64 0, .int .i64 0]), 3, 24) := by kernel_rfl
theorem its_one (l : List It) : ∀ u ∈ its l, u.oneCell' = true := by
  intro u hu
  obtain ⟨x, -, hx⟩ := List.mem_flatMap.1 hu
  simp only [It.vals, List.mem_cons, List.not_mem_nil, or_false] at hx
  rcases hx with rfl | rfl | rfl <;> rfl
theorem cloneInts (T : Nat → Prop) (v : Value) (l : List Int) (w : World) (h : IsRow T w v (l.map (.int .i64))) (hl : l.length ≤ 1000000000) :
    Calls Tryz.prog 101 #[v] w fun e w' => ∃ v', e = .returned v' ∧ IsVec (fun k => w.heap.size ≤ k) w' 3 1 v' l.length (l.map (Value.int .i64)) ∧ Mod nil w w' := by
  obtain ⟨p, c, rfl, hc⟩ := id h
  have hcl : (l.map (Value.int .i64)).length = l.length * 1 := by simp
  have heq := Lib.run_eql_slice_nil (P := Tryz.prog) w 22 3 p (l.map (Value.int .i64)).length c 0 0 Tryz.underlying22
  cases p with
  | none =>
    have h0 : l = [] := by
      rcases l with _ | ⟨a, l⟩
      · rfl
      · obtain ⟨b, off, h1, _⟩ := hc 0 (by rw [hcl, List.length_cons]; omega); cases h1
    subst h0
    clear hl hc h hcl
    simp only [List.map_nil, List.length_nil, Option.isNone_none] at heq
    go_enter Tryz.func101, Tryz.ntmps101
    go_wp2
    go_ret
    exact ⟨_, rfl, IsVec.nil _ _ _ _, Mod.refl _ _⟩
  | some a =>
    obtain ⟨i0, hi, hz0, hz1, hz2⟩ := info_parts info_int
    have hv := vec_empty w 3 1
    have hx : IsCells T (w.alloc (.cells #[] 3)) (.slice (some a) l.length c) l.length (l.map (Value.int .i64)) := by
      have := (h.cells).modNil ((Mod.refl nil w).alloc (.cells #[] 3))
      first | exact this | simpa using this
    obtain ⟨v', w', hrun, hvec, hmod⟩ := vec_append (P := Tryz.prog) 22 22 3 i0 _ 1 8 Tryz.underlying22 hi hz0 hz1 hz2 rfl (by omega) hv hx hcl (by intro u hu; obtain ⟨x, -, rfl⟩ := List.mem_map.1 hu; rfl) (by unfold maxLen; omega) (by omega)
    simp only [List.nil_append, Nat.zero_add] at hvec
    have hl2 : (l.map (Value.int .i64)).length = l.length := by simp
    rw [hl2] at heq ⊢
    clear hv hx h hl hc hcl hi hz0 hz1 hz2
    simp only [Option.isNone_some] at heq
    have HR := Lib.hid hrun
    clear hrun
    go_enter Tryz.func101, Tryz.ntmps101
    go_wp2_with (at_builtin; refine wpList_append_run rfl _ _ _ _ rfl rfl rfl HR.out ?_)
    go_ret
    exact ⟨_, rfl, hvec.mono (fun k _ hk => by rcases hk with hk | hk; exact hk; simp at hk; omega), ((Mod.refl nil w).alloc _).new hmod (fun _ h => h)⟩
theorem cloneItems (T : Nat → Prop) (v : Value) (l : List It) (w : World) (h : IsIts T w v l) (hl : l.length ≤ 1000000000) :
    Calls Tryz.prog 145 #[v] w fun e w' => ∃ v', e = .returned v' ∧ IsVec (fun k => w.heap.size ≤ k) w' 135 3 v' l.length (its l) ∧ Mod nil w w' := by
  obtain ⟨p, c, rfl, hc⟩ := id h
  have hcl : (its l).length = l.length * 3 := by rw [its_length]
  have heq := Lib.run_eql_slice_nil (P := Tryz.prog) w 133 135 p l.length c 0 0 Tryz.underlying133
  cases p with
  | none =>
    have h0 : l = [] := by
      rcases l with _ | ⟨a, l⟩
      · rfl
      · obtain ⟨b, off, h1, _⟩ := hc 0 (by rw [hcl, List.length_cons]; omega); cases h1
    subst h0
    clear hl hc h hcl
    simp only [List.map_nil, List.length_nil, Option.isNone_none] at heq
    go_enter Tryz.func145, Tryz.ntmps145
    go_wp2
    go_ret
    exact ⟨_, rfl, IsVec.nil _ _ _ _, Mod.refl _ _⟩
  | some a =>
    obtain ⟨i0, hi, hz0, hz1, hz2⟩ := info_parts info_item3
    have hv := vec_empty w 135 3
    have hx : IsCells T (w.alloc (.cells #[] 135)) (.slice (some a) l.length c) l.length (its l) := by
      have := (h).modNil ((Mod.refl nil w).alloc (.cells #[] 135))
      first | exact this | simpa using this
    obtain ⟨v', w', hrun, hvec, hmod⟩ := vec_append (P := Tryz.prog) 133 133 135 i0 _ 3 24 Tryz.underlying133 hi hz0 hz1 hz2 rfl (by omega) hv hx hcl (its_one l) (by unfold maxLen; omega) (by omega)
    simp only [List.nil_append, Nat.zero_add] at hvec
    have hl2 : l.length = l.length := by simp
    rw [hl2] at heq ⊢
    clear hv hx h hl hc hcl hi hz0 hz1 hz2
    simp only [Option.isNone_some] at heq
    have HR := Lib.hid hrun
    clear hrun
    go_enter Tryz.func145, Tryz.ntmps145
    go_wp2_with (at_builtin; refine wpList_append_run rfl _ _ _ _ rfl rfl rfl HR.out ?_)
    go_ret
    exact ⟨_, rfl, hvec.mono (fun k _ hk => by rcases hk with hk | hk; exact hk; simp at hk; omega), ((Mod.refl nil w).alloc _).new hmod (fun _ h => h)⟩
/-- a slice of slices of items that the program made itself -/
def IsLegsV (S : Nat → Prop) (w : World) (v : Value) (n : Nat) (ls : List (List It)) : Prop :=
  ∃ vs, IsVec S w 133 1 v n vs ∧ Each2 (fun x l => IsIts (fun k => S k ∧ ¬ v.ownBlock = some k) w x l) vs ls
theorem IsLegsV.nil (S : Nat → Prop) (w : World) : IsLegsV S w (.slice none 0 0) 0 [] := ⟨[], IsVec.nil _ _ _ _, trivial⟩
theorem IsLegsV.len {S : Nat → Prop} {w : World} {v : Value} {n : Nat} {ls : List (List It)} (h : IsLegsV S w v n ls) : ls.length = n := by
  obtain ⟨vs, h1, h2⟩ := h
  rw [← each2_length h2, h1.len, Nat.mul_one]
theorem IsLegsV.form {S : Nat → Prop} {w : World} {v : Value} {n : Nat} {ls : List (List It)} (h : IsLegsV S w v n ls) : ∃ p c, v = .slice p n c := by
  obtain ⟨vs, h1, h2⟩ := h
  exact h1.form
theorem IsLegsV.mod {S T : Nat → Prop} {w w' : World} {v : Value} {n : Nat} {ls : List (List It)} (h : IsLegsV S w v n ls) (m : Mod T w w') (hs : ∀ k, k < w.heap.size → S k → ¬ T k) : IsLegsV S w' v n ls := by
  obtain ⟨vs, h1, h2⟩ := h
  exact ⟨vs, h1.mod m hs, each2_imp (fun a b r => r.mod m (fun k hk h => hs k hk h.1)) h2⟩
theorem IsLegsV.modNil {S : Nat → Prop} {w w' : World} {v : Value} {n : Nat} {ls : List (List It)} (h : IsLegsV S w v n ls) (m : Mod Go.Proofs.YtdfpmlfdmhlhcaaGreat.nil w w') : IsLegsV S w' v n ls := h.mod m (fun _ _ _ f => f)
theorem IsLegsV.mono {S T : Nat → Prop} {w : World} {v : Value} {n : Nat} {ls : List (List It)} (h : IsLegsV S w v n ls) (hs : ∀ k, k < w.heap.size → S k → T k) : IsLegsV T w v n ls := by
  obtain ⟨vs, h1, h2⟩ := h
  exact ⟨vs, h1.mono hs, each2_imp (fun a b r => r.mono (fun k hk h => ⟨hs k hk h.1, h.2⟩)) h2⟩
theorem IsLegsV.legs {S : Nat → Prop} {w : World} {v : Value} {n : Nat} {ls : List (List It)} (h : IsLegsV S w v n ls) : IsLegs S w v ls := by
  obtain ⟨vs, h1, h2⟩ := h
  exact ⟨vs, h1.row, each2_imp (fun a b r => r.mono (fun k _ h => h.1)) h2⟩
theorem IsLegsV.own {S : Nat → Prop} {w : World} {v : Value} {n : Nat} {ls : List (List It)} (h : IsLegsV S w v n ls) {k : Nat} (hk : v.ownBlock = some k) : S k ∧ k < w.heap.size := by
  obtain ⟨vs, h1, h2⟩ := h
  refine ⟨h1.2 k hk, ?_⟩
  rcases h1.1.2 with ⟨rfl, _⟩ | ⟨g', cap, cur, rfl, _, hh, _⟩
  · simp [Value.ownBlock] at hk
  · simp [Value.ownBlock] at hk
    subst hk
    exact heap_lt hh
theorem info_items : (Tryz.prog.info? 133).map (fun i => (i.zero, i.size, i.bytes)) = some (some (.slice none 0 0), 1, 24) := by kernel_rfl
theorem IsIts.here {S : Nat → Prop} {w : World} {v : Value} {l : List It} (h : IsIts S w v l) : IsIts (fun k => S k ∧ k < w.heap.size) w v l := h.mono (fun _ hk h => ⟨h, hk⟩)
/-- append of one leg -/
theorem legs_append {S R : Nat → Prop} {w : World} (ty : TypeId) {v x : Value} {n g : Nat} {ls : List (List It)} {l : List It} (h : IsLegsV S w v n ls) (hx : IsIts R w x l) (hRS : ∀ k, R k → S k ∧ ¬ v.ownBlock = some k) (hg : w.heap.size = g) (hb : n + 1 ≤ 1000000000) :
    ∃ v' w', (Builtin.append_ #[23, 23] ty #[v, .slice (some ⟨g, 0, none⟩) 1 1]).run Tryz.prog (w.alloc (.cells #[x] 133)) = .ok v' w' ∧ IsLegsV (fun k => S k ∨ w.heap.size ≤ k) w' v' (n + 1) (ls ++ [l]) ∧ Mod (fun k => v.ownBlock = some k) w w' ∧ ∀ k, v'.ownBlock = some k → v.ownBlock = some k ∨ w.heap.size ≤ k := by
  obtain ⟨i0, hi, hz0, hz1, hz2⟩ := info_parts info_items
  obtain ⟨vs, h1, h2⟩ := h
  have hm : Mod Go.Proofs.YtdfpmlfdmhlhcaaGreat.nil w (w.alloc (.cells #[x] 133)) := (Mod.refl _ w).alloc _
  have hone : x.oneCell' = true := by obtain ⟨p, c, rfl⟩ := hx.form; rfl
  obtain ⟨v', w', hr, h3, h4⟩ := vec_append (P := Tryz.prog) 23 ty 133 i0 _ 1 24 Tryz.underlying23 hi hz0 hz1 hz2 rfl (by omega) (show IsVec (fun k => v.ownBlock = some k) _ _ _ _ _ _ from ⟨(h1.modNil hm).1, fun _ h => h⟩) (cellsOne w 133 x g hg) rfl (by intro u hu; rw [List.mem_singleton.1 hu]; exact hone) (by unfold maxLen; omega) (by omega)
  have hob : ∀ k, v.ownBlock = some k → k < w.heap.size := fun k hk => by
    rcases h1.1.2 with ⟨rfl, _⟩ | ⟨g', cap, cur, rfl, _, hh, _⟩
    · simp [Value.ownBlock] at hk
    · simp [Value.ownBlock] at hk
      subst hk
      exact heap_lt hh
  have hmw : Mod (fun k => v.ownBlock = some k) w w' := hm.ofNil.trans h4 (fun _ _ h => h)
  refine ⟨v', w', hr, ⟨_, h3.mono (fun k _ hk => hk.elim (fun h => .inl (h1.2 k h)) (fun h => .inr (Nat.le_trans hm.size h))), each2_snoc ?_ (each2_imp (fun a b r => ?_) h2)⟩, hmw, fun k ho => (h3.2 k ho).imp id (fun h => Nat.le_trans hm.size h)⟩
  · exact (hx.here.mod hmw (fun k _ hk ho => (hRS k hk.1).2 ho)).mono (fun k _ hk => ⟨.inl (hRS k hk.1).1, fun ho => by
      rcases h3.2 k ho with h' | h'
      · exact (hRS k hk.1).2 h'
      · have := hm.size; have := hk.2; omega⟩)
  · exact (r.here.mod hmw (fun k _ hk ho => hk.1.2 ho)).mono (fun k _ hk => ⟨.inl hk.1.1, fun ho => by
      rcases h3.2 k ho with h' | h'
      · exact hk.1.2 h'
      · have := hm.size; have := hk.2; omega⟩)
set_option maxRecDepth 100000 in
set_option maxHeartbeats 1000000 in
theorem planCopied (T : Nat → Prop) (p : Option Addr) (n cap : Nat) (ls : List (List It)) (w : World) (hrow : IsLegs T w (.slice p n cap) ls) (hmax : n ≤ 1000000) (hl : ∀ l ∈ ls, l.length ≤ 1000000) :
    Calls Tryz.prog 102 #[.slice p n cap] w fun e w' => ∃ p' c', e = .returned (.slice p' n c') ∧ IsLegsV (fun k => w.heap.size ≤ k) w' (.slice p' n c') n ls ∧ Mod nil w w' := by
  refine (?_ : ∀ Post : Ending → World → Prop, Hid (∀ e w', (∃ p' c', e = .returned (.slice p' n c') ∧ IsLegsV (fun k => w.heap.size ≤ k) w' (.slice p' n c') n ls ∧ Mod nil w w') → Post e w') → Calls Tryz.prog 102 #[.slice p n cap] w Post) _ (Lib.hid (fun _ _ h => h))
  intro Post HPOST
  have hn : ls.length = n := by obtain ⟨p', c', h⟩ := hrow.form; simp only [Value.slice.injEq] at h; exact h.2.1.symm
  have HROW := Lib.hid hrow
  have HN := Lib.hid hn
  have HL := Lib.hid hl
  obtain ⟨B, hB⟩ : ∃ B, w.heap.size = B := ⟨_, rfl⟩
  rw [hB] at HPOST
  have HB := Lib.hid hB
  clear hrow hn hl hB
  go_enter Tryz.func102, Tryz.ntmps102
  go_wp2_with fail
  go_loopw [3, 8] (fun v3 v8 wr => ∃ (i : Nat) (q : Option Addr) (c : Nat), i ≤ n ∧ v8 = .int .i64 i ∧ v3 = .slice q i c ∧ Hid (IsLegsV (fun k => B ≤ k) wr (.slice q i c) i (ls.take i)) ∧ Hid (Mod nil w wr)) (fun _ v _ => n - (intOf v).toNat)
  case atStart => exact ⟨0, none, 0, by omega, rfl, rfl, Lib.hid (IsLegsV.nil _ _), Lib.hid (Mod.refl _ _)⟩
  case round =>
    obtain ⟨i, q, c, hi, rfl, rfl, HV, HM⟩ := hrel
    by_cases hlt : i < n
    · have hil : i < ls.length := by rw [HN.out]; exact hlt
      obtain ⟨b, off, x, rfl, -, hbw, hx, hits⟩ := (HROW.out.modNil HM.out).at i hil
      obtain ⟨l, hll⟩ : ∃ l, ls[i] = l := ⟨_, rfl⟩
      rw [hll] at hits
      have hlm : l.length ≤ 1000000 := HL.out l (by rw [← hll]; exact List.getElem_mem _)
      have HT : Hid (ls.take (i + 1) = ls.take i ++ [l]) := Lib.hid (by rw [List.take_succ_eq_append_getElem hil, hll])
      have HITS := Lib.hid hits
      clear hits hll
      go_wp2_with fail
      refine (cloneItems _ _ _ wr HITS.out (by omega)).mono ?_
      rintro e w1 ⟨v1, rfl, hv1, hm1⟩
      obtain ⟨p1, c1, rfl⟩ := hv1.form
      have hi1 : IsIts (fun k => wr.heap.size ≤ k) w1 (.slice p1 l.length c1) l := hv1.cells
      have HI1 := Lib.hid hi1
      have HM1 := Lib.hid hm1
      have hs1 := hm1.size
      have hs2 := HM.out.size
      obtain ⟨L, hL⟩ : ∃ L, l.length = L := ⟨_, rfl⟩
      obtain ⟨g2, hg2⟩ : ∃ g2, w1.heap.size = g2 := ⟨_, rfl⟩
      have hown : ∀ k, wr.heap.size ≤ k → B ≤ k ∧ ¬ (Value.slice q i c).ownBlock = some k := fun k hk => ⟨by have := HB.out; omega, fun ho => by have := (HV.out.own ho).2; omega⟩
      obtain ⟨v8, w8, hrun8, hv8, hm8, ho8⟩ := legs_append (g := g2) 23 (HV.out.modNil HM1.out) HI1.out hown hg2 (by omega)
      obtain ⟨p8, c8, rfl⟩ := hv8.form
      rw [hL] at hrun8 ⊢
      have HRUN := Lib.hid hrun8
      have HV8 : Hid (IsLegsV (fun k => B ≤ k) w8 (.slice p8 (i + 1) c8) (i + 1) (ls.take (i + 1))) := Lib.hid (by
        rw [HT.out]
        exact hv8.mono (fun k _ h => h.elim id (fun h => by have := HB.out; omega)))
      have HM8 : Hid (Mod nil w w8) := Lib.hid ((HM.out.thenNil HM1.out).new hm8 (fun k ho => by have := (HV.out.own ho).1; have := HB.out; omega))
      clear hv1 hi1 hm1 hrun8 hv8 hm8 ho8 hown hs1 hs2 hL hlm
      go_wp2_with (first | (at_builtin; refine wpList_append_run rfl _ _ _ _ rfl rfl rfl HRUN.out ?_))
      exact ⟨⟨i + 1, p8, c8, by omega, by go_num, rfl, HV8, HM8⟩, by simp [intOf]; omega⟩
    · obtain rfl : i = n := by omega
      have HEND : Hid (Post (.returned (.slice q i c)) wr) := Lib.hid (HPOST.out _ _ ⟨_, _, rfl, by have h := HV.out; rw [List.take_of_length_le (by rw [HN.out]; exact Nat.le_refl _)] at h; exact h, HM.out⟩)
      clear HV HM
      go_wp2_with fail
      exact HEND.out
end Go.Proofs.YtdfpmlfdmhlhcaaGreat

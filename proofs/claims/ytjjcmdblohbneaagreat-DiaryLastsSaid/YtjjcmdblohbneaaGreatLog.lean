/- Package diary: its log: keep, Entries, Head, Len. (Printed by wip/tools/gen_log.py.) -/
import Derived.Test.YtjjcmdblohbneaaGreatChainAdd
import Derived.Test.YtjjcmdblohbneaaGreatCut
namespace Go.Proofs.YtjjcmdblohbneaaGreat
open Go.RowKit
/-- a log at block gb, by the table tb: the entries l; all of its blocks are in S -/
structure IsLog (S : Nat → Prop) (w : World) (gb tb : Nat) (l : List En) : Prop where
  own : S gb
  ex : ∃ (C E : Nat → Prop) (cb : Nat) (p : Option Addr) (c : Nat), w.heap[gb]? = some (.cells #[.pointer (some ⟨tb, 0, none⟩), .pointer (some ⟨cb, 0, none⟩), .slice p l.length c] 97 (0, 0)) ∧
    IsChain C w cb tb (headH l) l.length ∧ IsEnts E w (.slice p l.length c) l.length l ∧ (∀ k, C k → S k ∧ k ≠ gb ∧ ¬ E k) ∧ ∀ k, E k → S k ∧ k ≠ gb
theorem IsLog.mod {S T : Nat → Prop} {w w' : World} {gb tb : Nat} {l : List En} (h : IsLog S w gb tb l) (m : Mod T w w') (hs : ∀ k, k < w.heap.size → S k → ¬ T k) : IsLog S w' gb tb l := by
  obtain ⟨C, E, cb, p, c, h1, h2, h3, h4, h5⟩ := h.ex
  exact ⟨h.own, C, E, cb, p, c, (m.block gb (heap_lt h1) (hs gb (heap_lt h1) h.own)).trans h1, h2.mod m (fun k hk hc => hs k hk (h4 k hc).1), h3.mod m (fun k hk he => hs k hk (h5 k he).1), h4, h5⟩
theorem IsLog.modNil {S : Nat → Prop} {w w' : World} {gb tb : Nat} {l : List En} (h : IsLog S w gb tb l) (m : Mod nil w w') : IsLog S w' gb tb l := h.mod m (fun _ _ _ f => f)
theorem IsLog.mono {S T : Nat → Prop} {w : World} {gb tb : Nat} {l : List En} (h : IsLog S w gb tb l) (hs : ∀ k, k < w.heap.size → S k → T k) : IsLog T w gb tb l := by
  obtain ⟨C, E, cb, p, c, h1, h2, h3, h4, h5⟩ := h.ex
  exact ⟨hs gb (heap_lt h1) h.own, fun k => C k ∧ k < w.heap.size, fun k => E k ∧ k < w.heap.size, cb, p, c, h1, h2.mono (fun k hk h => ⟨h, hk⟩), h3.mono (fun k hk h => ⟨h, hk⟩), fun k hk => ⟨hs k hk.2 (h4 k hk.1).1, (h4 k hk.1).2.1, fun he => (h4 k hk.1).2.2 he.1⟩, fun k hk => ⟨hs k hk.2 (h5 k hk.1).1, (h5 k hk.1).2⟩⟩
theorem IsLog.lt {S : Nat → Prop} {w : World} {gb tb : Nat} {l : List En} (h : IsLog S w gb tb l) : gb < w.heap.size := by
  obtain ⟨C, E, cb, p, c, h1, h2, h3, h4, h5⟩ := h.ex
  exact heap_lt h1
set_option maxRecDepth 100000 in
set_option maxHeartbeats 4000000 in
theorem logKeep (S T : Nat → Prop) (gb tb k nb c : Nat) (l : List En) (body : List UInt8) (p : Option Addr) (w : World) (hlog : IsLog S w gb tb l) (ht : IsTab w tb) (hrow : IsRow T w (.slice p nb c) (bys body)) (hSt : ¬ S tb) (hT : ∀ j, T j → ¬ S j ∧ j ≠ tb) (hk : k ≤ 255) (hnb : nb ≤ 60000) (hn : l.length ≤ 1000000) :
    Calls Tryz.prog 37 #[.pointer (some ⟨gb, 0, none⟩), .agg #[.int .i64 (k : Nat), .slice p nb c]] w fun e w' => e = .returned (.int .i64 0) ∧ IsTab w' tb ∧ IsLog (fun j => S j ∨ w.heap.size ≤ j) w' gb tb (l ++ [⟨(k : Nat), body⟩]) ∧ Mod (fun j => S j ∨ j = tb) w w' := by
  refine (?_ : ∀ Post : Ending → World → Prop, Hid (∀ e w', (e = .returned (.int .i64 0) ∧ IsTab w' tb ∧ IsLog (fun j => S j ∨ w.heap.size ≤ j) w' gb tb (l ++ [⟨(k : Nat), body⟩]) ∧ Mod (fun j => S j ∨ j = tb) w w') → Post e w') → Calls Tryz.prog 37 #[.pointer (some ⟨gb, 0, none⟩), .agg #[.int .i64 (k : Nat), .slice p nb c]] w Post) _ (Lib.hid (fun _ _ h => h))
  intro Post HPOST
  have hbl : body.length = nb := by
    obtain ⟨_, _, h, _⟩ := hrow
    simp only [Value.slice.injEq, bys_length] at h
    exact h.2.1.symm
  obtain ⟨C, E0, cb, pl, cl, hg0, hch0, hen00, hC0, hE00⟩ := hlog.ex
  obtain ⟨E, hen0, hE, hElt, hC⟩ : ∃ E : Nat → Prop, IsEnts E w (.slice pl l.length cl) l.length l ∧ (∀ k, E k → S k ∧ k ≠ gb) ∧ (∀ k, E k → k < w.heap.size) ∧ ∀ k, C k → S k ∧ k ≠ gb ∧ ¬ E k :=
    ⟨fun k => E0 k ∧ k < w.heap.size, hen00.mono (fun k hk h => ⟨h, hk⟩), fun k h => hE00 k h.1, fun k h => h.2, fun k h => ⟨(hC0 k h).1, (hC0 k h).2.1, fun he => (hC0 k h).2.2 he.1⟩⟩
  have HELT := Lib.hid hElt
  clear hen00 hC0 hE00 hElt
  have HBL := Lib.hid hbl
  have HOWN := Lib.hid hlog.own
  have HST := Lib.hid hSt
  have HT := Lib.hid hT
  have HC := Lib.hid hC
  have HE0 := Lib.hid hE
  have HG0 := Lib.hid hg0
  have htl := ht.lt
  have hgl := heap_lt hg0
  have hcl := hch0.lt
  have hgc : ¬ gb = cb := fun e => (hC cb hch0.own).2.1 e.symm
  have hgt : ¬ gb = tb := fun e => hSt (e ▸ hlog.own)
  have HCH0 := Lib.hid hch0
  have HEN0 := Lib.hid hen0
  have HT0 := Lib.hid ht
  have HR0 := Lib.hid hrow
  obtain ⟨n, hln⟩ : ∃ n, l.length = n := ⟨_, rfl⟩
  rw [hln] at HG0 HCH0 HEN0 hn
  have HLN := Lib.hid hln
  obtain ⟨X, hX⟩ : ∃ X, w.heap.size = X := ⟨_, rfl⟩
  have HX := Lib.hid hX
  have hlX : gb < X ∧ cb < X ∧ tb < X := ⟨by omega, by omega, by omega⟩
  clear hlog hrow hSt hT hbl hC hE hg0 ht hch0 hen0 hX htl hgl hcl hln
  go_enter Tryz.func37, Tryz.ntmps37
  go_upto_region 1 with (fail)
  rw [HX.out]
  generalize hw1 : World.alloc w _ = w1
  have hx1 : w1.heap[X]? = some (.cells #[.int .i64 (k : Nat), .slice p nb c] 36 (0, 0)) := by rw [← hw1, ← HX.out]; exact heap_alloc_new _ _
  have hm1 : Mod nil w w1 := by rw [← hw1]; exact (Mod.refl _ _).alloc _
  have hg1 := hm1.keep HG0.out
  have HM1 := Lib.hid hm1
  have HX1 := Lib.hid hx1
  have HG1 := Lib.hid hg1
  have HADD : Hid (∀ W, Mod nil w1 W → Calls Tryz.prog 38 #[.pointer (some ⟨cb, 0, none⟩), .agg #[.int .i64 (k : Nat), .slice p nb c]] W fun e w' => e = .returned (.int .i64 0) ∧ IsTab w' tb ∧ IsChain (fun j => C j ∨ w.heap.size ≤ j) w' cb tb (headH (l ++ [⟨(k : Nat), body⟩])) (n + 1) ∧ Mod (fun j => j = cb ∨ j = tb) W w') := Lib.hid (fun W m => by
    refine (chainAdd C T cb tb n k nb c (headH l) body p W (HCH0.out.modNil (HM1.out.thenNil m)) (HT0.out.mod (HM1.out.thenNil m) (not_nil _)) (HR0.out.modNil (HM1.out.thenNil m)) (fun h => HST.out (HC.out _ h).1) hk hnb (by omega)).mono ?_
    rintro e w' ⟨rfl, ht, hch, hmm⟩
    exact ⟨rfl, ht, by rw [headH_snoc]; exact hch.mono (fun j _ h => h.imp id (fun h => Nat.le_trans (HM1.out.thenNil m).size h)), hmm⟩)
  have HK : Hid (∀ W, Mod (fun j => j = cb ∨ j = tb) w1 W → (fun w' => w'.cell? ⟨gb, 1, none⟩ = some (.pointer (some ⟨cb, 0, none⟩)) ∧ w'.cell? ⟨X, 0, none⟩ = some (.int .i64 (k : Nat)) ∧ w'.cell? ⟨X, 1, none⟩ = some (.slice p nb c)) W) := Lib.hid (fun W m => by
    have c1 := cell_of HG1.out 1
    have x0 := cell_of HX1.out 0
    have x1 := cell_of HX1.out 1
    simp only [List.getElem?_toArray, List.getElem?_cons_zero, List.getElem?_cons_succ] at c1 x0 x1
    exact ⟨cell_kept c1 m (heap_lt HG1.out) (by omega), cell_kept x0 m (heap_lt HX1.out) (by omega), cell_kept x1 m (heap_lt HX1.out) (by omega)⟩)
  clear hw1 hx1 hm1 hg1
  refine region_till (fun w' => w'.cell? ⟨gb, 1, none⟩ = some (.pointer (some ⟨cb, 0, none⟩)) ∧ w'.cell? ⟨X, 0, none⟩ = some (.int .i64 (k : Nat)) ∧ w'.cell? ⟨X, 1, none⟩ = some (.slice p nb c)) 6 (by kernel_rfl) ?_
  refine till_free (i := 0) (v := ?_) rfl (by kernel_rfl) (by kernel_rfl) (by kernel_rfl) (by kernel_rfl) (fun _ _ _ h => h) (Or.inl ⟨by kernel_rfl, ?_⟩) (fun _ => HK.out _ (by (repeat (first | assumption | exact Mod.refl _ _ | refine Mod.drew ?_ | refine Mod.alloc ?_ _)))) ?_
  rotate_left
  · intro w _; (first | (go_simp; done) | (go_simp; with_reducible rfl))
  (try simp only [Act.put]); (try simp only [List.setIfInBounds_toArray])
  refine till_free (i := 1) (v := ?_) rfl (by kernel_rfl) (by kernel_rfl) (by kernel_rfl) (by kernel_rfl) (fun _ _ _ h => h) (Or.inl ⟨by kernel_rfl, ?_⟩) (fun _ => HK.out _ (by (repeat (first | assumption | exact Mod.refl _ _ | refine Mod.drew ?_ | refine Mod.alloc ?_ _)))) ?_
  rotate_left
  · intro w _; (first | (go_simp; done) | (go_simp; with_reducible rfl))
  (try simp only [Act.put]); (try simp only [List.setIfInBounds_toArray])
  refine till_free (i := 2) (v := ?_) rfl (by kernel_rfl) (by kernel_rfl) (by kernel_rfl) (by kernel_rfl) (fun _ _ _ h => h) (Or.inl ⟨by kernel_rfl, ?_⟩) (fun _ => HK.out _ (by (repeat (first | assumption | exact Mod.refl _ _ | refine Mod.drew ?_ | refine Mod.alloc ?_ _)))) ?_
  rotate_left
  · intro w _; (first | (go_simp; done) | (go_simp; with_reducible rfl))
  (try simp only [Act.put]); (try simp only [List.setIfInBounds_toArray])
  refine till_take (i := 3) (v := ?_) rfl (by kernel_rfl) (by kernel_rfl) (by kernel_rfl) (by kernel_rfl) (by kernel_rfl) (by kernel_rfl) (fun _ _ _ h => h) (Or.inl ⟨by kernel_rfl, ?_⟩) (HK.out _ (by (repeat (first | assumption | exact Mod.refl _ _ | refine Mod.drew ?_ | refine Mod.alloc ?_ _)))) ?_
  rotate_left
  · intro w hSw; (try dsimp only at hSw); (first | (go_simp; done) | (go_simp; with_reducible rfl))
  (try simp only [Act.put]); (try simp only [List.setIfInBounds_toArray])
  refine till_take (i := 4) (v := ?_) rfl (by kernel_rfl) (by kernel_rfl) (by kernel_rfl) (by kernel_rfl) (by kernel_rfl) (by kernel_rfl) (fun _ _ _ h => h) (Or.inl ⟨by kernel_rfl, ?_⟩) (HK.out _ (by (repeat (first | assumption | exact Mod.refl _ _ | refine Mod.drew ?_ | refine Mod.alloc ?_ _)))) ?_
  rotate_left
  · intro w hSw; (try dsimp only at hSw); (first | (go_simp; done) | (go_simp; with_reducible rfl))
  (try simp only [Act.put]); (try simp only [List.setIfInBounds_toArray])
  refine till_ready (rs := [5]) (by kernel_rfl) (by simp) ?_
  refine till_cons (i := 5) rfl (fun K hK => ?_) till_nil
  (try dsimp (config := { proj := false }) only [List.getElem_toArray, List.getElem_cons_succ, List.getElem_cons_zero])
  go_simp
  refine (HADD.out _ ?_).mono ?_
  · (repeat (first | assumption | exact Mod.refl _ _ | refine Mod.drew ?_ | refine Mod.alloc ?_ _))
  rintro e w2 ⟨rfl, ht2, hch2, hm2⟩
  have hm2' : Mod (fun j => j = cb ∨ j = tb) w1 w2 := (show Mod (fun j => j = cb ∨ j = tb) w1 _ from by (repeat (first | assumption | exact Mod.refl _ _ | refine Mod.drew ?_ | refine Mod.alloc ?_ _))).trans hm2 (fun _ _ h => h)
  refine hK.out _ _ (fun _ => HK.out _ (by (repeat (first | assumption | exact Mod.refl _ _ | refine Mod.drew ?_ | refine Mod.alloc ?_ _)))) ?_
  clear hK K
  (try simp only [Act.put, List.setIfInBounds_toArray, List.set_cons_zero, List.set_cons_succ])
  refine till_ready (rs := [6]) (by kernel_rfl) (by simp) ?_
  refine till_cons (i := 6) rfl (fun K hK => ?_) till_nil
  (try dsimp (config := { proj := false }) only [List.getElem_toArray, List.getElem_cons_succ, List.getElem_cons_zero])
  go_simp
  refine hK.out _ _ (fun h => (by simp at h)) ?_
  clear hK K
  (try simp only [Act.put, List.setIfInBounds_toArray, List.set_cons_zero, List.set_cons_succ])
  refine till_done (by kernel_rfl) ?_ _
  have hg2 := (hm2'.block gb (heap_lt HG1.out) (by omega)).trans HG1.out
  have hx2 := (hm2'.block X (heap_lt HX1.out) (by omega)).trans HX1.out
  have HB2 := Lib.hid hg2
  have HX2 := Lib.hid hx2
  have HT2 := Lib.hid ht2
  have HCH2 := Lib.hid hch2
  have HM2 : Hid (Mod (fun j => j = cb ∨ j = tb) w w2) := Lib.hid (HM1.out.ofNil.trans hm2' (fun _ _ h => h))
  have HEN2 : Hid (IsEnts E w2 (.slice pl n cl) n l) := Lib.hid (HEN0.out.mod HM2.out (fun j _ hj h => by rcases h with h | h; exact (HC.out cb HCH0.out.own).2.2 (h ▸ hj); exact HST.out (h ▸ (HE0.out j hj).1)))
  have HR2 : Hid (IsRow T w2 (.slice p nb c) (bys body)) := Lib.hid (HR0.out.mod HM2.out (fun j _ hj h => by rcases h with h | h; exact (HT.out j hj).1 (h ▸ (HC.out cb HCH0.out.own).1); exact (HT.out j hj).2 h))
  have HGO : Hid (¬ (Value.slice pl n cl).ownBlock = some gb) := Lib.hid (fun ho => (HE0.out gb (HEN2.out.own ho).1).2 rfl)
  have HXO : Hid (¬ (Value.slice pl n cl).ownBlock = some X) := Lib.hid (fun ho => by have := (HEN0.out.own ho).2; have := HX.out; omega)
  have HCL : Hid (∀ W, Mod nil w2 W → Calls Tryz.prog 43 #[.slice p nb c] W fun e w' => ∃ p c, e = .returned (.slice p nb c) ∧ IsVec (fun k => w2.heap.size ≤ k) w' 5 1 (.slice p nb c) nb (bys body) ∧ Mod nil W w') := Lib.hid (fun W m => by
    refine (bytesClone T _ body W (HR2.out.modNil m) (by rw [HBL.out]; omega)).mono ?_
    rintro e w' ⟨v, rfl, hv, hmm⟩
    rw [HBL.out] at hv
    obtain ⟨p', c', rfl⟩ := hv.form
    exact ⟨p', c', rfl, hv.mono (fun k _ h => Nat.le_trans m.size h), hmm⟩)
  clear HK
  have HK : Hid (∀ W, Mod (fun k => (Value.slice pl n cl).ownBlock = some k) w2 W → (fun w' => w'.cell? ⟨gb, 2, none⟩ = some (.slice pl n cl) ∧ w'.cell? ⟨X, 0, none⟩ = some (.int .i64 (k : Nat)) ∧ w'.cell? ⟨X, 1, none⟩ = some (.slice p nb c)) W) := Lib.hid (fun W m => by
    have c2 := cell_of HB2.out 2
    have x0 := cell_of HX2.out 0
    have x1 := cell_of HX2.out 1
    simp only [List.getElem?_toArray, List.getElem?_cons_zero, List.getElem?_cons_succ] at c2 x0 x1
    exact ⟨cell_kept c2 m (heap_lt HB2.out) HGO.out, cell_kept x0 m (heap_lt HX2.out) HXO.out, cell_kept x1 m (heap_lt HX2.out) HXO.out⟩)
  clear ht2 hch2 hm2 hm2' hg2 hx2 HX1 HG1
  go_upto_region 4 with (fail)
  refine region_till (fun w' => w'.cell? ⟨gb, 2, none⟩ = some (.slice pl n cl) ∧ w'.cell? ⟨X, 0, none⟩ = some (.int .i64 (k : Nat)) ∧ w'.cell? ⟨X, 1, none⟩ = some (.slice p nb c)) 15 (by kernel_rfl) ?_
  refine till_free (i := 0) (v := ?_) rfl (by kernel_rfl) (by kernel_rfl) (by kernel_rfl) (by kernel_rfl) (fun _ _ _ h => h) (Or.inl ⟨by kernel_rfl, ?_⟩) (fun _ => HK.out _ (by (repeat (first | assumption | exact Mod.refl _ _ | refine Mod.drew ?_ | refine Mod.alloc ?_ _)))) ?_
  rotate_left
  · intro w _; (first | (go_simp; done) | (go_simp; with_reducible rfl))
  (try simp only [Act.put]); (try simp only [List.setIfInBounds_toArray])
  refine till_free (i := 1) (v := ?_) rfl (by kernel_rfl) (by kernel_rfl) (by kernel_rfl) (by kernel_rfl) (fun _ _ _ h => h) (Or.inl ⟨by kernel_rfl, ?_⟩) (fun _ => HK.out _ (by (repeat (first | assumption | exact Mod.refl _ _ | refine Mod.drew ?_ | refine Mod.alloc ?_ _)))) ?_
  rotate_left
  · intro w _; (first | (go_simp; done) | (go_simp; with_reducible rfl))
  (try simp only [Act.put]); (try simp only [List.setIfInBounds_toArray])
  refine till_free (i := 2) (v := ?_) rfl (by kernel_rfl) (by kernel_rfl) (by kernel_rfl) (by kernel_rfl) (fun _ _ _ h => h) (Or.inl ⟨by kernel_rfl, ?_⟩) (fun _ => HK.out _ (by (repeat (first | assumption | exact Mod.refl _ _ | refine Mod.drew ?_ | refine Mod.alloc ?_ _)))) ?_
  rotate_left
  · intro w _; (first | (go_simp; done) | (go_simp; with_reducible rfl))
  (try simp only [Act.put]); (try simp only [List.setIfInBounds_toArray])
  refine till_free (i := 3) (v := ?_) rfl (by kernel_rfl) (by kernel_rfl) (by kernel_rfl) (by kernel_rfl) (fun _ _ _ h => h) (Or.inl ⟨by kernel_rfl, ?_⟩) (fun _ => HK.out _ (by (repeat (first | assumption | exact Mod.refl _ _ | refine Mod.drew ?_ | refine Mod.alloc ?_ _)))) ?_
  rotate_left
  · intro w _; (first | (go_simp; done) | (go_simp; with_reducible rfl))
  (try simp only [Act.put]); (try simp only [List.setIfInBounds_toArray])
  refine till_take (i := 4) (v := ?_) rfl (by kernel_rfl) (by kernel_rfl) (by kernel_rfl) (by kernel_rfl) (by kernel_rfl) (by kernel_rfl) (fun _ _ _ h => h) (Or.inl ⟨by kernel_rfl, ?_⟩) (HK.out _ (by (repeat (first | assumption | exact Mod.refl _ _ | refine Mod.drew ?_ | refine Mod.alloc ?_ _)))) ?_
  rotate_left
  · intro w hSw; (try dsimp only at hSw); (first | (go_simp; done) | (go_simp; with_reducible rfl))
  (try simp only [Act.put]); (try simp only [List.setIfInBounds_toArray])
  refine till_free (i := 5) (v := ?_) rfl (by kernel_rfl) (by kernel_rfl) (by kernel_rfl) (by kernel_rfl) (fun _ _ _ h => h) (Or.inl ⟨by kernel_rfl, ?_⟩) (fun _ => HK.out _ (by (repeat (first | assumption | exact Mod.refl _ _ | refine Mod.drew ?_ | refine Mod.alloc ?_ _)))) ?_
  rotate_left
  · intro w _; (first | (go_simp; done) | (go_simp; with_reducible rfl))
  (try simp only [Act.put]); (try simp only [List.setIfInBounds_toArray])
  refine till_take (i := 6) (v := ?_) rfl (by kernel_rfl) (by kernel_rfl) (by kernel_rfl) (by kernel_rfl) (by kernel_rfl) (by kernel_rfl) (fun _ _ _ h => h) (Or.inl ⟨by kernel_rfl, ?_⟩) (HK.out _ (by (repeat (first | assumption | exact Mod.refl _ _ | refine Mod.drew ?_ | refine Mod.alloc ?_ _)))) ?_
  rotate_left
  · intro w hSw; (try dsimp only at hSw); (first | (go_simp; done) | (go_simp; with_reducible rfl))
  (try simp only [Act.put]); (try simp only [List.setIfInBounds_toArray])
  refine till_free (i := 7) (v := ?_) rfl (by kernel_rfl) (by kernel_rfl) (by kernel_rfl) (by kernel_rfl) (fun _ _ _ h => h) (Or.inl ⟨by kernel_rfl, ?_⟩) (fun _ => HK.out _ (by (repeat (first | assumption | exact Mod.refl _ _ | refine Mod.drew ?_ | refine Mod.alloc ?_ _)))) ?_
  rotate_left
  · intro w _; (first | (go_simp; done) | (go_simp; with_reducible rfl))
  (try simp only [Act.put]); (try simp only [List.setIfInBounds_toArray])
  refine till_take (i := 8) (v := ?_) rfl (by kernel_rfl) (by kernel_rfl) (by kernel_rfl) (by kernel_rfl) (by kernel_rfl) (by kernel_rfl) (fun _ _ _ h => h) (Or.inl ⟨by kernel_rfl, ?_⟩) (HK.out _ (by (repeat (first | assumption | exact Mod.refl _ _ | refine Mod.drew ?_ | refine Mod.alloc ?_ _)))) ?_
  rotate_left
  · intro w hSw; (try dsimp only at hSw); (first | (go_simp; done) | (go_simp; with_reducible rfl))
  (try simp only [Act.put]); (try simp only [List.setIfInBounds_toArray])
  refine till_ready (rs := [9]) (by kernel_rfl) (by simp) ?_
  refine till_cons (i := 9) rfl (fun K hK => ?_) till_nil
  (try dsimp (config := { proj := false }) only [List.getElem_toArray, List.getElem_cons_succ, List.getElem_cons_zero])
  go_simp
  refine (HCL.out _ ?_).mono ?_
  · (repeat (first | assumption | exact Mod.refl _ _ | refine Mod.drew ?_ | refine Mod.alloc ?_ _))
  rintro e w3 ⟨p3, c3, rfl, hv3, hm3⟩
  have hm3' : Mod (fun k => (Value.slice pl n cl).ownBlock = some k) w2 w3 := (show Mod (fun k => (Value.slice pl n cl).ownBlock = some k) w2 _ from by (repeat (first | assumption | exact Mod.refl _ _ | refine Mod.drew ?_ | refine Mod.alloc ?_ _))).thenNil hm3
  have hm3n : Mod nil w2 w3 := (show Mod nil w2 _ from by (repeat (first | assumption | exact Mod.refl _ _ | refine Mod.drew ?_ | refine Mod.alloc ?_ _))).thenNil hm3
  obtain ⟨v8, w8, hrun8, hv8, hm8, ho8⟩ := ents_append (R := fun k => w2.heap.size ≤ k) (w := w3) (e := ⟨(k : Nat), body⟩) 33 ((HEN2.out.mono (T := fun k => E k ∨ w2.heap.size ≤ k) (fun _ _ h => .inl h)).modNil hm3n) hv3.row (fun k hk => ⟨.inr hk, fun ho => by have := (HEN2.out.own ho).2; have : w2.heap.size ≤ k := hk; omega⟩) rfl (by omega)
  obtain ⟨p8, c8, rfl⟩ := hv8.form
  have hm8' : Mod (fun k => (Value.slice pl n cl).ownBlock = some k) w2 w8 := hm3'.trans hm8 (fun _ _ h => h)
  have hb8 := (hm8'.block gb (heap_lt HB2.out) HGO.out).trans HB2.out
  have z8 := free_of hb8 2
  have f8 := (HK.out w8 hm8').1
  have HV8 := Lib.hid hv8
  have HM8 := Lib.hid hm8'
  have HB8 := Lib.hid hb8
  have HO8 := Lib.hid ho8
  clear hv8 hb8 ho8 hv3
  refine hK.out _ _ (fun _ => HK.out _ (by (repeat (first | assumption | exact Mod.refl _ _ | refine Mod.drew ?_ | refine Mod.alloc ?_ _)))) ?_
  clear hK K
  (try simp only [Act.put, List.setIfInBounds_toArray, List.set_cons_zero, List.set_cons_succ])
  refine till_free (i := 10) (v := ?_) rfl (by kernel_rfl) (by kernel_rfl) (by kernel_rfl) (by kernel_rfl) (fun _ _ _ h => h) (Or.inl ⟨by kernel_rfl, ?_⟩) (fun _ => HK.out _ (by (repeat (first | assumption | exact Mod.refl _ _ | refine Mod.drew ?_ | refine Mod.alloc ?_ _)))) ?_
  rotate_left
  · intro w _; (first | (go_simp; done) | (go_simp; with_reducible rfl))
  (try simp only [Act.put]); (try simp only [List.setIfInBounds_toArray])
  refine till_ready (rs := [11]) (by kernel_rfl) (by simp) ?_
  refine till_cons (i := 11) rfl (fun K hK => ?_) till_nil
  (try dsimp (config := { proj := false }) only [List.getElem_toArray, List.getElem_cons_succ, List.getElem_cons_zero])
  go_simp
  refine hK.out _ _ (fun _ => HK.out _ (by (repeat (first | assumption | exact Mod.refl _ _ | refine Mod.drew ?_ | refine Mod.alloc ?_ _)))) ?_
  clear hK K
  (try simp only [Act.put, List.setIfInBounds_toArray, List.set_cons_zero, List.set_cons_succ])
  refine till_ready (rs := [12]) (by kernel_rfl) (by simp) ?_
  refine till_cons (i := 12) rfl (fun K hK => ?_) till_nil
  (try dsimp (config := { proj := false }) only [List.getElem_toArray, List.getElem_cons_succ, List.getElem_cons_zero])
  refine step_append_run rfl _ _ _ _ rfl rfl rfl hrun8 ?_
  refine hK.out _ _ (fun _ => HK.out _ (by (repeat (first | assumption | exact Mod.refl _ _ | refine Mod.drew ?_ | refine Mod.alloc ?_ _)))) ?_
  clear hK K
  (try simp only [Act.put, List.setIfInBounds_toArray, List.set_cons_zero, List.set_cons_succ])
  refine till_free (i := 13) (v := ?_) rfl (by kernel_rfl) (by kernel_rfl) (by kernel_rfl) (by kernel_rfl) (fun _ _ _ h => h) (Or.inl ⟨by kernel_rfl, ?_⟩) (fun _ => HK.out _ (by (repeat (first | assumption | exact Mod.refl _ _ | refine Mod.drew ?_ | refine Mod.alloc ?_ _)))) ?_
  rotate_left
  · intro w _; (first | (go_simp; done) | (go_simp; with_reducible rfl))
  (try simp only [Act.put]); (try simp only [List.setIfInBounds_toArray])
  refine till_free (i := 14) (v := ?_) rfl (by kernel_rfl) (by kernel_rfl) (by kernel_rfl) (by kernel_rfl) (fun _ _ _ h => h) (Or.inl ⟨by kernel_rfl, ?_⟩) (fun _ => HK.out _ (by (repeat (first | assumption | exact Mod.refl _ _ | refine Mod.drew ?_ | refine Mod.alloc ?_ _)))) ?_
  rotate_left
  · intro w _; (first | (go_simp; done) | (go_simp; with_reducible rfl))
  (try simp only [Act.put]); (try simp only [List.setIfInBounds_toArray])
  refine till_ready (rs := [15]) (by kernel_rfl) (by simp) ?_
  refine till_cons (i := 15) rfl (fun K hK => ?_) till_nil
  (try dsimp (config := { proj := false }) only [List.getElem_toArray, List.getElem_cons_succ, List.getElem_cons_zero])
  go_simp
  refine hK.out _ _ (fun h => (by simp at h)) ?_
  clear hK K
  (try simp only [Act.put, List.setIfInBounds_toArray, List.set_cons_zero, List.set_cons_succ])
  refine till_done (by kernel_rfl) ?_ _
  have g1 := heap_setCell_same HB8.out (.slice p8 (n + 1) c8) (off := 2)
  simp only [List.setIfInBounds_toArray, List.set_cons_succ, List.set_cons_zero] at g1
  have hm9 : Mod (· = gb) w8 (w8.setCell ⟨gb, 2, none⟩ (.slice p8 (n + 1) c8)) := (Mod.refl _ _).setCell _ _ (fun _ => rfl)
  generalize World.setCell w8 _ _ = w9 at g1 hm9 ⊢
  have hs2 := HM2.out.size
  have hs8 := HM8.out.size
  have hmE : ∀ j, (Value.slice pl n cl).ownBlock = some j → E j := fun j h => (HEN2.out.own h).1
  have hm29 : Mod (fun j => (Value.slice pl n cl).ownBlock = some j ∨ j = gb) w2 w9 := (HM8.out.mono (fun _ _ h => .inl h)).trans hm9 (fun _ _ h => .inr h)
  have hcb2 := HCH2.out.lt
  have HE := Lib.hid (HPOST.out _ w9 ⟨rfl, HT2.out.mod hm29 (fun h => by rcases h with h | h; exact HST.out (HE0.out _ (hmE _ h)).1; exact hgt h.symm), ⟨.inl HOWN.out, fun j => (C j ∨ w.heap.size ≤ j) ∧ j < w2.heap.size, fun j => E j ∨ w2.heap.size ≤ j, cb, p8, c8, by rw [List.length_append, HLN.out]; exact g1,
    by rw [List.length_append, HLN.out]; exact (HCH2.out.mono (T := fun j => (C j ∨ w.heap.size ≤ j) ∧ j < w2.heap.size) (fun j hj h => ⟨h, hj⟩)).mod hm29 (fun j _ hj h => by
      rcases h with h | h
      · rcases hj.1 with h' | h'
        · exact (HC.out j h').2.2 (hmE j h)
        · have := (HEN0.out.own h).2; omega
      · rcases hj.1 with h' | h'
        · exact (HC.out j h').2.1 h
        · have := HX.out; omega),
    by rw [List.length_append, HLN.out]; exact ((HV8.out.mono (T := fun j => E j ∨ w2.heap.size ≤ j) (fun j _ h => h.elim id (fun h => .inr (by have := hm3n.size; omega)))).mod hm9 (fun j _ hj h => by rcases hj with h' | h'; exact (HE0.out j h').2 h; have := HX.out; omega)),
    fun j hj => ⟨hj.1.imp (fun h => (HC.out j h).1) id, fun e => by rcases hj.1 with h' | h'; exact (HC.out j h').2.1 e; have := HX.out; omega, fun he => ?_⟩, fun j hj => ⟨hj.elim (fun h => .inl (HE0.out j h).1) (fun h => .inr (by omega)), fun e => by rcases hj with h' | h'; exact (HE0.out j h').2 e; have := HX.out; omega⟩⟩,
    (HM2.out.mono (T := fun j => S j ∨ j = tb) (fun j _ h => h.elim (fun h => .inl (by rw [h]; exact (HC.out cb HCH0.out.own).1)) .inr)).trans (hm29.mono (T := fun j => S j ∨ j = tb) (fun j _ h => .inl (h.elim (fun h => (HE0.out j (hmE j h)).1) (fun h => by rw [h]; exact HOWN.out)))) (fun _ _ h => h)⟩)
  rotate_left
  · rcases he with h | h
    · rcases hj.1 with h' | h'
      · exact (HC.out j h').2.2 h
      · have := HELT.out j h; omega
    · omega
  clear g1 hm9 hm29 hs2 hs8 hmE hcb2
  go_wp2_with fail
  exact HE.out
set_option maxRecDepth 100000 in
set_option maxHeartbeats 4000000 in
theorem logEntries (S : Nat → Prop) (gb tb : Nat) (l : List En) (w : World) (hlog : IsLog S w gb tb l) (hl : ∀ e ∈ l, e.b.length ≤ 60000) (hn : l.length ≤ 1000000) :
    Calls Tryz.prog 13 #[.pointer (some ⟨gb, 0, none⟩)] w fun e w' => ∃ p c, e = .returned (.slice p l.length c) ∧ IsEnts (fun k => w.heap.size ≤ k) w' (.slice p l.length c) l.length l ∧ Mod nil w w' := by
  refine (?_ : ∀ Post : Ending → World → Prop, Hid (∀ e w', (∃ p c, e = .returned (.slice p l.length c) ∧ IsEnts (fun k => w.heap.size ≤ k) w' (.slice p l.length c) l.length l ∧ Mod nil w w') → Post e w') → Calls Tryz.prog 13 #[.pointer (some ⟨gb, 0, none⟩)] w Post) _ (Lib.hid (fun _ _ h => h))
  intro Post HPOST
  obtain ⟨C, E, cb, pl, cl, hg0, hch0, hen0, hC, hE⟩ := hlog.ex
  have c2 := cell_of hg0 2
  simp only [List.getElem?_toArray, List.getElem?_cons_zero, List.getElem?_cons_succ] at c2
  have HR := Lib.hid hen0.read
  obtain ⟨n, hln⟩ : ∃ n, l.length = n := ⟨_, rfl⟩
  rw [hln] at c2 hn HR HPOST
  have HN := Lib.hid hln
  have HL := Lib.hid hl
  obtain ⟨B, hB⟩ : ∃ B, w.heap.size = B := ⟨_, rfl⟩
  rw [hB] at HPOST
  have HB := Lib.hid hB
  clear hlog hg0 hch0 hen0 hC hE hl hln hB
  go_enter Tryz.func13, Tryz.ntmps13
  go_wp2_with fail
  go_loopw [3, 11] (fun v3 v11 wr => ∃ (i : Nat) (q : Option Addr) (cq : Nat), i ≤ n ∧ v11 = .int .i64 i ∧ v3 = .slice q i cq ∧ Hid (IsEnts (fun k => B ≤ k) wr (.slice q i cq) i (l.take i)) ∧ Hid (Mod nil w wr)) (fun _ v _ => n - (intOf v).toNat)
  case atStart => exact ⟨0, none, 0, by omega, rfl, rfl, Lib.hid (IsEnts.nil _ _), Lib.hid (Mod.refl _ _)⟩
  case round =>
    obtain ⟨i, q, cq, hi, rfl, rfl, HV, HMW⟩ := hrel
    by_cases hlt : i < n
    · have hil : i < l.length := by rw [HN.out]; exact hlt
      obtain ⟨b, off, x, rfl, -, hbw, k0, k1, hrow⟩ := (HR.out.modNil HMW.out).at i hil
      have HT : Hid (l.take (i + 1) = l.take i ++ [l[i]]) := Lib.hid (List.take_succ_eq_append_getElem hil)
      have hbl := HL.out _ (List.getElem_mem hil)
      obtain ⟨ee, hee⟩ : ∃ ee, l[i] = ee := ⟨_, rfl⟩
      rw [hee] at k0 hrow hbl HT
      obtain ⟨kk, bx⟩ := ee
      simp only at k0 hrow hbl
      obtain ⟨px, cx, rfl, -⟩ := id hrow
      rw [bys_length] at k1 hrow
      obtain ⟨nx, hnx⟩ : ∃ nx, bx.length = nx := ⟨_, rfl⟩
      rw [hnx] at k1 hrow hbl
      have HNX := Lib.hid hnx
      have HROW := Lib.hid hrow
      clear hee hnx hrow
      go_upto_region 5 with (fail)
      generalize hw2 : World.alloc wr _ = w2
      have hx2 : w2.heap[wr.heap.size]? = some (.cells #[.int .i64 kk, .slice px nx cx] 36 (0, 0)) := by rw [← hw2]; exact heap_alloc_new _ _
      have hm2 : Mod nil wr w2 := by rw [← hw2]; exact (Mod.refl _ _).alloc _
      have HM2 := Lib.hid hm2
      have HX2 := Lib.hid hx2
      have HCL : Hid (∀ W, Mod nil w2 W → Calls Tryz.prog 43 #[.slice px nx cx] W fun e w' => ∃ p c, e = .returned (.slice p nx c) ∧ IsVec (fun k => w2.heap.size ≤ k) w' 5 1 (.slice p nx c) nx (bys bx) ∧ Mod nil W w') := Lib.hid (fun W m => by
        refine (bytesClone _ _ bx W (HROW.out.modNil (HM2.out.thenNil m)) (by rw [HNX.out]; omega)).mono ?_
        rintro e w' ⟨v, rfl, hv, hmm⟩
        rw [HNX.out] at hv
        obtain ⟨p', c', rfl⟩ := hv.form
        exact ⟨p', c', rfl, hv.mono (fun k _ h => Nat.le_trans m.size h), hmm⟩)
      have HK : Hid (∀ W, Mod (fun k => (Value.slice q i cq).ownBlock = some k) w2 W → (fun w' => w'.cell? ⟨wr.heap.size, 0, none⟩ = some (.int .i64 kk) ∧ w'.cell? ⟨wr.heap.size, 1, none⟩ = some (.slice px nx cx)) W) := Lib.hid (fun W m => by
        have x0 := cell_of HX2.out 0
        have x1 := cell_of HX2.out 1
        simp only [List.getElem?_toArray, List.getElem?_cons_zero, List.getElem?_cons_succ] at x0 x1
        have hno : ¬ (Value.slice q i cq).ownBlock = some wr.heap.size := fun ho => by have := (HV.out.own ho).2; omega
        exact ⟨cell_kept x0 m (heap_lt HX2.out) hno, cell_kept x1 m (heap_lt HX2.out) hno⟩)
      clear hw2 hx2 hm2 k0 k1
      refine region_till (fun w' => w'.cell? ⟨wr.heap.size, 0, none⟩ = some (.int .i64 kk) ∧ w'.cell? ⟨wr.heap.size, 1, none⟩ = some (.slice px nx cx)) 9 (by kernel_rfl) ?_
      refine till_free (i := 0) (v := ?_) rfl (by kernel_rfl) (by kernel_rfl) (by kernel_rfl) (by kernel_rfl) (fun _ _ _ h => h) (Or.inl ⟨by kernel_rfl, ?_⟩) (fun _ => HK.out _ (by (repeat (first | assumption | exact Mod.refl _ _ | refine Mod.drew ?_ | refine Mod.alloc ?_ _)))) ?_
      rotate_left
      · intro w _; (first | (go_simp; done) | (go_simp; with_reducible rfl))
      (try simp only [Act.put]); (try simp only [List.setIfInBounds_toArray])
      refine till_free (i := 1) (v := ?_) rfl (by kernel_rfl) (by kernel_rfl) (by kernel_rfl) (by kernel_rfl) (fun _ _ _ h => h) (Or.inl ⟨by kernel_rfl, ?_⟩) (fun _ => HK.out _ (by (repeat (first | assumption | exact Mod.refl _ _ | refine Mod.drew ?_ | refine Mod.alloc ?_ _)))) ?_
      rotate_left
      · intro w _; (first | (go_simp; done) | (go_simp; with_reducible rfl))
      (try simp only [Act.put]); (try simp only [List.setIfInBounds_toArray])
      refine till_take (i := 2) (v := ?_) rfl (by kernel_rfl) (by kernel_rfl) (by kernel_rfl) (by kernel_rfl) (by kernel_rfl) (by kernel_rfl) (fun _ _ _ h => h) (Or.inl ⟨by kernel_rfl, ?_⟩) (HK.out _ (by (repeat (first | assumption | exact Mod.refl _ _ | refine Mod.drew ?_ | refine Mod.alloc ?_ _)))) ?_
      rotate_left
      · intro w hSw; (try dsimp only at hSw); (first | (go_simp; done) | (go_simp; with_reducible rfl))
      (try simp only [Act.put]); (try simp only [List.setIfInBounds_toArray])
      refine till_free (i := 3) (v := ?_) rfl (by kernel_rfl) (by kernel_rfl) (by kernel_rfl) (by kernel_rfl) (fun _ _ _ h => h) (Or.inl ⟨by kernel_rfl, ?_⟩) (fun _ => HK.out _ (by (repeat (first | assumption | exact Mod.refl _ _ | refine Mod.drew ?_ | refine Mod.alloc ?_ _)))) ?_
      rotate_left
      · intro w _; (first | (go_simp; done) | (go_simp; with_reducible rfl))
      (try simp only [Act.put]); (try simp only [List.setIfInBounds_toArray])
      refine till_take (i := 4) (v := ?_) rfl (by kernel_rfl) (by kernel_rfl) (by kernel_rfl) (by kernel_rfl) (by kernel_rfl) (by kernel_rfl) (fun _ _ _ h => h) (Or.inl ⟨by kernel_rfl, ?_⟩) (HK.out _ (by (repeat (first | assumption | exact Mod.refl _ _ | refine Mod.drew ?_ | refine Mod.alloc ?_ _)))) ?_
      rotate_left
      · intro w hSw; (try dsimp only at hSw); (first | (go_simp; done) | (go_simp; with_reducible rfl))
      (try simp only [Act.put]); (try simp only [List.setIfInBounds_toArray])
      refine till_ready (rs := [5]) (by kernel_rfl) (by simp) ?_
      refine till_cons (i := 5) rfl (fun K hK => ?_) till_nil
      (try dsimp (config := { proj := false }) only [List.getElem_toArray, List.getElem_cons_succ, List.getElem_cons_zero])
      go_simp
      refine (HCL.out _ ?_).mono ?_
      · (repeat (first | assumption | exact Mod.refl _ _ | refine Mod.drew ?_ | refine Mod.alloc ?_ _))
      rintro e w3 ⟨p3, c3, rfl, hv3, hm3⟩
      have hm3n : Mod nil w2 w3 := (show Mod nil w2 _ from by (repeat (first | assumption | exact Mod.refl _ _ | refine Mod.drew ?_ | refine Mod.alloc ?_ _))).thenNil hm3
      have hm3' : Mod (fun k => (Value.slice q i cq).ownBlock = some k) w2 w3 := hm3n.ofNil
      obtain ⟨v8, w8, hrun8, hv8, hm8, ho8⟩ := ents_append (R := fun k => w2.heap.size ≤ k) (w := w3) (e := ⟨kk, bx⟩) 33 ((HV.out.modNil HM2.out).modNil hm3n) hv3.row (fun k hk => ⟨by have := HB.out; have := HMW.out.size; have := HM2.out.size; have : w2.heap.size ≤ k := hk; omega, fun ho => by have := (HV.out.own ho).2; have := HM2.out.size; have : w2.heap.size ≤ k := hk; omega⟩) rfl (by omega)
      obtain ⟨p8, c8, rfl⟩ := hv8.form
      have hm8' : Mod (fun k => (Value.slice q i cq).ownBlock = some k) w2 w8 := hm3'.trans hm8 (fun _ _ h => h)
      have HV8 : Hid (IsEnts (fun k => B ≤ k) w8 (.slice p8 (i + 1) c8) (i + 1) (l.take i ++ [⟨kk, bx⟩])) := Lib.hid (hv8.mono (fun k _ h => h.elim id (fun h => by have := HB.out; have := HMW.out.size; have := HM2.out.size; have := hm3n.size; omega)))
      have HM8 := Lib.hid hm8'
      clear hv8 ho8 hv3
      refine hK.out _ _ (fun _ => HK.out _ (by (repeat (first | assumption | exact Mod.refl _ _ | refine Mod.drew ?_ | refine Mod.alloc ?_ _)))) ?_
      clear hK K
      (try simp only [Act.put, List.setIfInBounds_toArray, List.set_cons_zero, List.set_cons_succ])
      refine till_free (i := 6) (v := ?_) rfl (by kernel_rfl) (by kernel_rfl) (by kernel_rfl) (by kernel_rfl) (fun _ _ _ h => h) (Or.inl ⟨by kernel_rfl, ?_⟩) (fun _ => HK.out _ (by (repeat (first | assumption | exact Mod.refl _ _ | refine Mod.drew ?_ | refine Mod.alloc ?_ _)))) ?_
      rotate_left
      · intro w _; (first | (go_simp; done) | (go_simp; with_reducible rfl))
      (try simp only [Act.put]); (try simp only [List.setIfInBounds_toArray])
      refine till_ready (rs := [7]) (by kernel_rfl) (by simp) ?_
      refine till_cons (i := 7) rfl (fun K hK => ?_) till_nil
      (try dsimp (config := { proj := false }) only [List.getElem_toArray, List.getElem_cons_succ, List.getElem_cons_zero])
      go_simp
      refine hK.out _ _ (fun _ => HK.out _ (by (repeat (first | assumption | exact Mod.refl _ _ | refine Mod.drew ?_ | refine Mod.alloc ?_ _)))) ?_
      clear hK K
      (try simp only [Act.put, List.setIfInBounds_toArray, List.set_cons_zero, List.set_cons_succ])
      refine till_ready (rs := [8]) (by kernel_rfl) (by simp) ?_
      refine till_cons (i := 8) rfl (fun K hK => ?_) till_nil
      (try dsimp (config := { proj := false }) only [List.getElem_toArray, List.getElem_cons_succ, List.getElem_cons_zero])
      refine step_append_run rfl _ _ _ _ rfl rfl rfl hrun8 ?_
      refine hK.out _ _ (fun _ => HK.out _ (by (repeat (first | assumption | exact Mod.refl _ _ | refine Mod.drew ?_ | refine Mod.alloc ?_ _)))) ?_
      clear hK K
      (try simp only [Act.put, List.setIfInBounds_toArray, List.set_cons_zero, List.set_cons_succ])
      refine till_ready (rs := [9]) (by kernel_rfl) (by simp) ?_
      refine till_cons (i := 9) rfl (fun K hK => ?_) till_nil
      (try dsimp (config := { proj := false }) only [List.getElem_toArray, List.getElem_cons_succ, List.getElem_cons_zero])
      go_simp
      refine hK.out _ _ (fun h => (by simp at h)) ?_
      clear hK K
      (try simp only [Act.put, List.setIfInBounds_toArray, List.set_cons_zero, List.set_cons_succ])
      refine till_done (by kernel_rfl) ?_ _
      have hmf : Mod nil w w8 := (HMW.out.thenNil HM2.out).new HM8.out (fun k ho => by have := (HV.out.own ho).1; have := HB.out; omega)
      have HMF := Lib.hid hmf
      rw [← HT.out] at HV8
      clear hmf hm8 hm8' hrun8 hm3 hm3n hm3'
      go_wp2_with fail
      exact ⟨⟨i + 1, p8, c8, by omega, by go_num, rfl, HV8, HMF⟩, by simp [intOf]; omega⟩
    · obtain rfl : i = n := by omega
      have HE : Hid (Post (.returned (.slice q i cq)) wr) := Lib.hid (HPOST.out _ _ ⟨q, cq, rfl, by
        have h := HV.out
        rw [List.take_of_length_le (by rw [HN.out]; exact Nat.le_refl _)] at h
        exact h, HMW.out⟩)
      clear HV HMW
      go_wp2_with fail
      exact HE.out
theorem logHead (S : Nat → Prop) (gb tb : Nat) (l : List En) (w : World) (hlog : IsLog S w gb tb l) :
    Calls Tryz.prog 17 #[.pointer (some ⟨gb, 0, none⟩)] w fun e w' => ∃ p c, e = .returned (.slice p 32 c) ∧ IsVec (fun k => w.heap.size ≤ k) w' 5 1 (.slice p 32 c) 32 (bys (headH l)) ∧ Mod nil w w' := by
  refine (?_ : ∀ Post : Ending → World → Prop, Hid (∀ e w', (∃ p c, e = .returned (.slice p 32 c) ∧ IsVec (fun k => w.heap.size ≤ k) w' 5 1 (.slice p 32 c) 32 (bys (headH l)) ∧ Mod nil w w') → Post e w') → Calls Tryz.prog 17 #[.pointer (some ⟨gb, 0, none⟩)] w Post) _ (Lib.hid (fun _ _ h => h))
  intro Post HPOST
  obtain ⟨C, E, cb, pl, cl, hg0, hch0, hen0, hC, hE⟩ := hlog.ex
  have c1 := cell_of hg0 1
  simp only [List.getElem?_toArray, List.getElem?_cons_zero, List.getElem?_cons_succ] at c1
  have HC := Lib.hid (chainHead C cb tb _ _ w hch0)
  clear hlog hg0 hch0 hen0 hC hE
  go_enter Tryz.func17, Tryz.ntmps17
  go_wp2_with fail
  refine HC.out.mono ?_
  rintro e w1 ⟨p', c', rfl, hv, hm⟩
  have HE := Lib.hid (HPOST.out _ _ ⟨p', c', rfl, hv, hm⟩)
  clear hv hm
  go_wp2_with fail
  exact HE.out
theorem logLen (S : Nat → Prop) (gb tb : Nat) (l : List En) (w : World) (hlog : IsLog S w gb tb l) :
    Calls Tryz.prog 18 #[.pointer (some ⟨gb, 0, none⟩)] w fun e w' => e = .returned (.int .i64 l.length) ∧ w = w' := by
  obtain ⟨C, E, cb, pl, cl, hg0, hch0, hen0, hC, hE⟩ := hlog.ex
  have c1 := cell_of hg0 1
  simp only [List.getElem?_toArray, List.getElem?_cons_zero, List.getElem?_cons_succ] at c1
  obtain ⟨n, hn⟩ : ∃ n, l.length = n := ⟨_, rfl⟩
  have HC := Lib.hid (chainLen C cb tb _ _ w hch0)
  rw [hn] at HC
  rw [hn]
  clear hlog hg0 hch0 hen0 hC hE hn
  go_enter Tryz.func18, Tryz.ntmps18
  go_wp2_with fail
  refine HC.out.mono ?_
  rintro e w1 ⟨rfl, rfl⟩
  go_wp2_with fail
  go_ret
  exact ⟨rfl, rfl⟩
end Go.Proofs.YtjjcmdblohbneaaGreat

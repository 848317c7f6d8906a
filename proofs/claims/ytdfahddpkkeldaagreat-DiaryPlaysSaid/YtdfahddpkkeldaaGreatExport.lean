/- Package diary: its log: keep, Entries, Head, Len. (Printed by wip/tools/gen_log.py.) -/
import Derived.Test.YtdfahddpkkeldaaGreatShort
import Derived.Test.YtdfahddpkkeldaaGreatChainAdd
import Derived.Test.YtdfahddpkkeldaaGreatCut
set_option linter.unusedSimpArgs false
set_option linter.unusedVariables false
namespace Go.Proofs.YtdfahddpkkeldaaGreat
open Go.RowKit
/-- a log at block gb, by the table tb: the entries l; all of its blocks are in S -/
structure IsLog (S : Nat → Prop) (w : World) (gb tb : Nat) (l : List En) : Prop where
 own : S gb
 ex : ∃ (C E : Nat → Prop) (cb : Nat) (p : Option Addr) (c : Nat), w.heap[gb]? = some (.cells #[.pointer (some ⟨tb, 0, none⟩), .pointer (some ⟨cb, 0, none⟩), .slice p l.length c] 96 (0, 0)) ∧
  IsChain C w cb tb (headH l) l.length ∧ IsEnts E w (.slice p l.length c) l.length l ∧ (∀ k, C k → S k ∧ k ≠ gb ∧ ¬ E k) ∧ ∀ k, E k → S k ∧ k ≠ gb
theorem IsLog.mod {S T : Nat → Prop} {w w' : World} {gb tb : Nat} {l : List En} (h : IsLog S w gb tb l) (m : Mod T w w') (hs : ∀ k, k < w.heap.size → S k → ¬ T k) : IsLog S w' gb tb l := by
 obtain ⟨C, E, cb, p, c, h1, h2, h3, h4, h5⟩ := h.ex
 exact ⟨h.own, C, E, cb, p, c, (m.block gb (heap_lt h1) (hs gb (heap_lt h1) h.own)).trans h1, h2.mod m (fun k hk hc => hs k hk (h4 k hc).1), h3.mod m (fun k hk he => hs k hk (h5 k he).1), h4, h5⟩
theorem IsLog.modNil {S : Nat → Prop} {w w' : World} {gb tb : Nat} {l : List En} (h : IsLog S w gb tb l) (m : Mod nil w w') : IsLog S w' gb tb l := h.mod m (fun _ _ _ f => f)
theorem IsLog.mono {S T : Nat → Prop} {w : World} {gb tb : Nat} {l : List En} (h : IsLog S w gb tb l) (hs : ∀ k, k < w.heap.size → S k → T k) : IsLog T w gb tb l := by
 obtain ⟨C, E, cb, p, c, h1, h2, h3, h4, h5⟩ := h.ex
 exact ⟨hs gb (heap_lt h1) h.own, fun k => C k ∧ k < w.heap.size, fun k => E k ∧ k < w.heap.size, cb, p, c, h1, h2.mono (fun k hk h => ⟨h, hk⟩), h3.mono (fun k hk h => ⟨h, hk⟩), fun k hk => ⟨hs k hk.2 (h4 k hk.1).1, (h4 k hk.1).2.1, fun he => (h4 k hk.1).2.2 he.1⟩, fun k hk => ⟨hs k hk.2 (h5 k hk.1).1, (h5 k hk.1).2⟩⟩
theorem IsLog.lt {S : Nat → Prop} {w : World} {gb tb : Nat} {l : List En} (h : IsLog S w gb tb l) : gb < w.heap.size := by
 obtain ⟨C, E, cb, p, c, h1, h2, h3, h4, h5⟩ := h.ex
 exact heap_lt h1
set_option maxRecDepth 100000 in
set_option maxHeartbeats 4000000 in
theorem logKeep (S T : Nat → Prop) (gb tb k nb c : Nat) (l : List En) (body : List UInt8) (p : Option Addr) (w : World) (hlog : IsLog S w gb tb l) (ht : IsTab w tb) (hrow : IsRow T w (.slice p nb c) (bys body)) (hSt : ¬ S tb) (hT : ∀ j, T j → ¬ S j ∧ j ≠ tb) (hk : k ≤ 255) (hnb : nb ≤ 60000) (hn : l.length ≤ 1000000) :
  Calls Tryz.prog 32 #[.pointer (some ⟨gb, 0, none⟩), .agg #[.int .i64 (k : Nat), .slice p nb c]] w fun e w' => e = .returned (.int .i64 0) ∧ IsTab w' tb ∧ IsLog (fun j => S j ∨ w.heap.size ≤ j) w' gb tb (l ++ [⟨(k : Nat), body⟩]) ∧ Mod (fun j => S j ∨ j = tb) w w' := by
 refine (?_ : ∀ Post : Ending → World → Prop, Hid (∀ e w', (e = .returned (.int .i64 0) ∧ IsTab w' tb ∧ IsLog (fun j => S j ∨ w.heap.size ≤ j) w' gb tb (l ++ [⟨(k : Nat), body⟩]) ∧ Mod (fun j => S j ∨ j = tb) w w') → Post e w') → Calls Tryz.prog 32 #[.pointer (some ⟨gb, 0, none⟩), .agg #[.int .i64 (k : Nat), .slice p nb c]] w Post) _ (Lib.hid (fun _ _ h => h))
 intro Post HPOST
 have hbl : body.length = nb := by
  obtain ⟨_, _, h, _⟩ := hrow
  simp only [Value.slice.injEq, bys_length] at h
  exact h.2.1.symm
 obtain ⟨C, E0, cb, pl, cl, hg0, hch0, hen00, hC0, hE00⟩ := hlog.ex
 obtain ⟨E, hen0, hE, hElt, hC⟩ : ∃ E : Nat → Prop, IsEnts E w (.slice pl l.length cl) l.length l ∧ (∀ k, E k → S k ∧ k ≠ gb) ∧ (∀ k, E k → k < w.heap.size) ∧ ∀ k, C k → S k ∧ k ≠ gb ∧ ¬ E k :=
  ⟨fun k => E0 k ∧ k < w.heap.size, hen00.mono (fun k hk h => ⟨h, hk⟩), fun k h => hE00 k h.1, fun k h => h.2, fun k h => ⟨(hC0 k h).1, (hC0 k h).2.1, fun he => (hC0 k h).2.2 he.1⟩⟩
 have HELT := Lib.hid hElt
 clear hen00 hC0 hE00 hElt
 have HBL := Lib.hid hbl
 have HOWN := Lib.hid hlog.own
 have HST := Lib.hid hSt
 have HT := Lib.hid hT
 have HC := Lib.hid hC
 have HE0 := Lib.hid hE
 have HG0 := Lib.hid hg0
 have htl := ht.lt
 have hgl := heap_lt hg0
 have hcl := hch0.lt
 have hgc : ¬ gb = cb := fun e => (hC cb hch0.own).2.1 e.symm
 have hgt : ¬ gb = tb := fun e => hSt (e ▸ hlog.own)
 have HCH0 := Lib.hid hch0
 have HEN0 := Lib.hid hen0
 have HT0 := Lib.hid ht
 have HR0 := Lib.hid hrow
 obtain ⟨n, hln⟩ : ∃ n, l.length = n := ⟨_, rfl⟩
 rw [hln] at HG0 HCH0 HEN0 hn
 have HLN := Lib.hid hln
 obtain ⟨X, hX⟩ : ∃ X, w.heap.size = X := ⟨_, rfl⟩
 have HX := Lib.hid hX
 have hlX : gb < X ∧ cb < X ∧ tb < X := ⟨by omega, by omega, by omega⟩
 clear hlog hrow hSt hT hbl hC hE hg0 ht hch0 hen0 hX htl hgl hcl hln
 go_enter Tryz.func32, Tryz.ntmps32
 go_upto_region 1 with (fail)
 rw [HX.out]
 generalize hw1 : World.alloc w _ = w1
 have hx1 : w1.heap[X]? = some (.cells #[.int .i64 (k : Nat), .slice p nb c] 42 (0, 0)) := by rw [← hw1, ← HX.out]; exact heap_alloc_new _ _
 have hm1 : Mod nil w w1 := by rw [← hw1]; exact (Mod.refl _ _).alloc _
 have hg1 := hm1.keep HG0.out
 have HM1 := Lib.hid hm1
 have HX1 := Lib.hid hx1
 have HG1 := Lib.hid hg1
 have HADD : Hid (∀ W, Mod nil w1 W → Calls Tryz.prog 35 #[.pointer (some ⟨cb, 0, none⟩), .agg #[.int .i64 (k : Nat), .slice p nb c]] W fun e w' => e = .returned (.int .i64 0) ∧ IsTab w' tb ∧ IsChain (fun j => C j ∨ w.heap.size ≤ j) w' cb tb (headH (l ++ [⟨(k : Nat), body⟩])) (n + 1) ∧ Mod (fun j => j = cb ∨ j = tb) W w') := Lib.hid (fun W m => by
  refine (chainAdd C T cb tb n k nb c (headH l) body p W (HCH0.out.modNil (HM1.out.thenNil m)) (HT0.out.mod (HM1.out.thenNil m) (not_nil _)) (HR0.out.modNil (HM1.out.thenNil m)) (fun h => HST.out (HC.out _ h).1) hk hnb (by omega)).mono ?_
  rintro e w' ⟨rfl, ht, hch, hmm⟩
  exact ⟨rfl, ht, by rw [headH_snoc]; exact hch.mono (fun j _ h => h.imp id (fun h => Nat.le_trans (HM1.out.thenNil m).size h)), hmm⟩)
 have HK : Hid (∀ W, Mod (fun j => j = cb ∨ j = tb) w1 W → (fun w' => w'.cell? ⟨gb, 1, none⟩ = some (.pointer (some ⟨cb, 0, none⟩)) ∧ w'.cell? ⟨X, 0, none⟩ = some (.int .i64 (k : Nat)) ∧ w'.cell? ⟨X, 1, none⟩ = some (.slice p nb c)) W) := Lib.hid (fun W m => by
  have c1 := cell_of HG1.out 1
  have x0 := cell_of HX1.out 0
  have x1 := cell_of HX1.out 1
  simp only [List.getElem?_toArray, List.getElem?_cons_zero, List.getElem?_cons_succ] at c1 x0 x1
  exact ⟨cell_kept c1 m (heap_lt HG1.out) (by omega), cell_kept x0 m (heap_lt HX1.out) (by omega), cell_kept x1 m (heap_lt HX1.out) (by omega)⟩)
 clear hw1 hx1 hm1 hg1
 refine region_till (fun w' => w'.cell? ⟨gb, 1, none⟩ = some (.pointer (some ⟨cb, 0, none⟩)) ∧ w'.cell? ⟨X, 0, none⟩ = some (.int .i64 (k : Nat)) ∧ w'.cell? ⟨X, 1, none⟩ = some (.slice p nb c)) 6 (by kernel_rfl) ?_
 refine sF 0 (fun _ => HK.out _ mD) ?_
 refine sF 1 (fun _ => HK.out _ mD) ?_
 refine sF 2 (fun _ => HK.out _ mD) ?_
 refine sT 3 (HK.out _ mD) ?_
 refine sT 4 (HK.out _ mD) ?_
 refine rT 5 (fun K hK => ?_)
 go_simp
 refine (HADD.out _ ?_).mono ?_
 ·exact mD
 rintro e w2 ⟨rfl, ht2, hch2, hm2⟩
 have hm2' : Mod (fun j => j = cb ∨ j = tb) w1 w2 := (show Mod (fun j => j = cb ∨ j = tb) w1 _ from mD).trans hm2 (fun _ _ h => h)
 refine hK.out _ _ (fun _ => HK.out _ mD) ?_
 clear hK K
 (try simp only [Act.put, pT])
 refine rT 6 (fun K hK => ?_)
 go_simp
 refine hK.out _ _ (fun h => (by simp at h)) ?_
 clear hK K
 (try simp only [Act.put, pT])
 refine till_done (by kernel_rfl) ?_ _
 have hg2 := (hm2'.block gb (heap_lt HG1.out) (by omega)).trans HG1.out
 have hx2 := (hm2'.block X (heap_lt HX1.out) (by omega)).trans HX1.out
 have HB2 := Lib.hid hg2
 have HX2 := Lib.hid hx2
 have HT2 := Lib.hid ht2
 have HCH2 := Lib.hid hch2
 have HM2 : Hid (Mod (fun j => j = cb ∨ j = tb) w w2) := Lib.hid (HM1.out.ofNil.trans hm2' (fun _ _ h => h))
 have HEN2 : Hid (IsEnts E w2 (.slice pl n cl) n l) := Lib.hid (HEN0.out.mod HM2.out (fun j _ hj h => by rcases h with h | h; exact (HC.out cb HCH0.out.own).2.2 (h ▸ hj); exact HST.out (h ▸ (HE0.out j hj).1)))
 have HR2 : Hid (IsRow T w2 (.slice p nb c) (bys body)) := Lib.hid (HR0.out.mod HM2.out (fun j _ hj h => by rcases h with h | h; exact (HT.out j hj).1 (h ▸ (HC.out cb HCH0.out.own).1); exact (HT.out j hj).2 h))
 have HGO : Hid (¬ (Value.slice pl n cl).ownBlock = some gb) := Lib.hid (fun ho => (HE0.out gb (HEN2.out.own ho).1).2 rfl)
 have HXO : Hid (¬ (Value.slice pl n cl).ownBlock = some X) := Lib.hid (fun ho => by have := (HEN0.out.own ho).2; have := HX.out; omega)
 have HCL : Hid (∀ W, Mod nil w2 W → Calls Tryz.prog 50 #[.slice p nb c] W fun e w' => ∃ p c, e = .returned (.slice p nb c) ∧ IsVec (fun k => w2.heap.size ≤ k) w' 5 1 (.slice p nb c) nb (bys body) ∧ Mod nil W w') := Lib.hid (fun W m => by
  refine (bytesClone T _ body W (HR2.out.modNil m) (by rw [HBL.out]; omega)).mono ?_
  rintro e w' ⟨v, rfl, hv, hmm⟩
  rw [HBL.out] at hv
  obtain ⟨p', c', rfl⟩ := hv.form
  exact ⟨p', c', rfl, hv.mono (fun k _ h => Nat.le_trans m.size h), hmm⟩)
 clear HK
 have HK : Hid (∀ W, Mod (fun k => (Value.slice pl n cl).ownBlock = some k) w2 W → (fun w' => w'.cell? ⟨gb, 2, none⟩ = some (.slice pl n cl) ∧ w'.cell? ⟨X, 0, none⟩ = some (.int .i64 (k : Nat)) ∧ w'.cell? ⟨X, 1, none⟩ = some (.slice p nb c)) W) := Lib.hid (fun W m => by
  have c2 := cell_of HB2.out 2
  have x0 := cell_of HX2.out 0
  have x1 := cell_of HX2.out 1
  simp only [List.getElem?_toArray, List.getElem?_cons_zero, List.getElem?_cons_succ] at c2 x0 x1
  exact ⟨cell_kept c2 m (heap_lt HB2.out) HGO.out, cell_kept x0 m (heap_lt HX2.out) HXO.out, cell_kept x1 m (heap_lt HX2.out) HXO.out⟩)
 clear ht2 hch2 hm2 hm2' hg2 hx2 HX1 HG1
 go_upto_region 4 with (fail)
 refine region_till (fun w' => w'.cell? ⟨gb, 2, none⟩ = some (.slice pl n cl) ∧ w'.cell? ⟨X, 0, none⟩ = some (.int .i64 (k : Nat)) ∧ w'.cell? ⟨X, 1, none⟩ = some (.slice p nb c)) 15 (by kernel_rfl) ?_
 refine sF 0 (fun _ => HK.out _ mD) ?_
 refine sF 1 (fun _ => HK.out _ mD) ?_
 refine sF 2 (fun _ => HK.out _ mD) ?_
 refine sF 3 (fun _ => HK.out _ mD) ?_
 refine sT 4 (HK.out _ mD) ?_
 refine sF 5 (fun _ => HK.out _ mD) ?_
 refine sT 6 (HK.out _ mD) ?_
 refine sF 7 (fun _ => HK.out _ mD) ?_
 refine sT 8 (HK.out _ mD) ?_
 refine rT 9 (fun K hK => ?_)
 go_simp
 refine (HCL.out _ ?_).mono ?_
 ·exact mD
 rintro e w3 ⟨p3, c3, rfl, hv3, hm3⟩
 have hm3' : Mod (fun k => (Value.slice pl n cl).ownBlock = some k) w2 w3 := (show Mod (fun k => (Value.slice pl n cl).ownBlock = some k) w2 _ from mD).thenNil hm3
 have hm3n : Mod nil w2 w3 := (show Mod nil w2 _ from mD).thenNil hm3
 obtain ⟨v8, w8, hrun8, hv8, hm8, ho8⟩ := ents_append (R := fun k => w2.heap.size ≤ k) (w := w3) (e := ⟨(k : Nat), body⟩) 59 ((HEN2.out.mono (T := fun k => E k ∨ w2.heap.size ≤ k) (fun _ _ h => .inl h)).modNil hm3n) hv3.row (fun k hk => ⟨.inr hk, fun ho => by have := (HEN2.out.own ho).2; have : w2.heap.size ≤ k := hk; omega⟩) rfl (by omega)
 obtain ⟨p8, c8, rfl⟩ := hv8.form
 have hm8' : Mod (fun k => (Value.slice pl n cl).ownBlock = some k) w2 w8 := hm3'.trans hm8 (fun _ _ h => h)
 have hb8 := (hm8'.block gb (heap_lt HB2.out) HGO.out).trans HB2.out
 have z8 := free_of hb8 2
 have f8 := (HK.out w8 hm8').1
 have HV8 := Lib.hid hv8
 have HM8 := Lib.hid hm8'
 have HB8 := Lib.hid hb8
 have HO8 := Lib.hid ho8
 clear hv8 hb8 ho8 hv3
 refine hK.out _ _ (fun _ => HK.out _ mD) ?_
 clear hK K
 (try simp only [Act.put, pT])
 refine sF 10 (fun _ => HK.out _ mD) ?_
 refine rT 11 (fun K hK => ?_)
 go_simp
 refine hK.out _ _ (fun _ => HK.out _ mD) ?_
 clear hK K
 (try simp only [Act.put, pT])
 refine rT 12 (fun K hK => ?_)
 refine step_append_run rfl _ _ _ _ rfl rfl rfl hrun8 ?_
 refine hK.out _ _ (fun _ => HK.out _ mD) ?_
 clear hK K
 (try simp only [Act.put, pT])
 refine sF 13 (fun _ => HK.out _ mD) ?_
 refine sF 14 (fun _ => HK.out _ mD) ?_
 refine rT 15 (fun K hK => ?_)
 go_simp
 refine hK.out _ _ (fun h => (by simp at h)) ?_
 clear hK K
 (try simp only [Act.put, pT])
 refine till_done (by kernel_rfl) ?_ _
 have g1 := heap_setCell_same HB8.out (.slice p8 (n + 1) c8) (off := 2)
 simp only [List.setIfInBounds_toArray, List.set_cons_succ, List.set_cons_zero] at g1
 have hm9 : Mod (· = gb) w8 (w8.setCell ⟨gb, 2, none⟩ (.slice p8 (n + 1) c8)) := (Mod.refl _ _).setCell _ _ (fun _ => rfl)
 generalize World.setCell w8 _ _ = w9 at g1 hm9 ⊢
 have hs2 := HM2.out.size
 have hs8 := HM8.out.size
 have hmE : ∀ j, (Value.slice pl n cl).ownBlock = some j → E j := fun j h => (HEN2.out.own h).1
 have hm29 : Mod (fun j => (Value.slice pl n cl).ownBlock = some j ∨ j = gb) w2 w9 := (HM8.out.mono (fun _ _ h => .inl h)).trans hm9 (fun _ _ h => .inr h)
 have hcb2 := HCH2.out.lt
 have HE := Lib.hid (HPOST.out _ w9 ⟨rfl, HT2.out.mod hm29 (fun h => by rcases h with h | h; exact HST.out (HE0.out _ (hmE _ h)).1; exact hgt h.symm), ⟨.inl HOWN.out, fun j => (C j ∨ w.heap.size ≤ j) ∧ j < w2.heap.size, fun j => E j ∨ w2.heap.size ≤ j, cb, p8, c8, by rw [List.length_append, HLN.out]; exact g1,
  by rw [List.length_append, HLN.out]; exact (HCH2.out.mono (T := fun j => (C j ∨ w.heap.size ≤ j) ∧ j < w2.heap.size) (fun j hj h => ⟨h, hj⟩)).mod hm29 (fun j _ hj h => by
   rcases h with h | h
   ·rcases hj.1 with h' | h'
    ·exact (HC.out j h').2.2 (hmE j h)
    ·have := (HEN0.out.own h).2; omega
   ·rcases hj.1 with h' | h'
    ·exact (HC.out j h').2.1 h
    ·have := HX.out; omega),
  by rw [List.length_append, HLN.out]; exact ((HV8.out.mono (T := fun j => E j ∨ w2.heap.size ≤ j) (fun j _ h => h.elim id (fun h => .inr (by have := hm3n.size; omega)))).mod hm9 (fun j _ hj h => by rcases hj with h' | h'; exact (HE0.out j h').2 h; have := HX.out; omega)),
  fun j hj => ⟨hj.1.imp (fun h => (HC.out j h).1) id, fun e => by rcases hj.1 with h' | h'; exact (HC.out j h').2.1 e; have := HX.out; omega, fun he => ?_⟩, fun j hj => ⟨hj.elim (fun h => .inl (HE0.out j h).1) (fun h => .inr (by omega)), fun e => by rcases hj with h' | h'; exact (HE0.out j h').2 e; have := HX.out; omega⟩⟩,
  (HM2.out.mono (T := fun j => S j ∨ j = tb) (fun j _ h => h.elim (fun h => .inl (by rw [h]; exact (HC.out cb HCH0.out.own).1)) .inr)).trans (hm29.mono (T := fun j => S j ∨ j = tb) (fun j _ h => .inl (h.elim (fun h => (HE0.out j (hmE j h)).1) (fun h => by rw [h]; exact HOWN.out)))) (fun _ _ h => h)⟩)
 rotate_left
 ·rcases he with h | h
  ·rcases hj.1 with h' | h'
   ·exact (HC.out j h').2.2 h
   ·have := HELT.out j h; omega
  ·omega
 clear g1 hm9 hm29 hs2 hs8 hmE hcb2
 go_wp2_with fail
 exact HE.out
set_option maxRecDepth 100000 in
set_option maxHeartbeats 4000000 in
theorem logEntries (S : Nat → Prop) (gb tb : Nat) (l : List En) (w : World) (hlog : IsLog S w gb tb l) (hl : ∀ e ∈ l, e.b.length ≤ 60000) (hn : l.length ≤ 1000000) :
  Calls Tryz.prog 23 #[.pointer (some ⟨gb, 0, none⟩)] w fun e w' => ∃ p c, e = .returned (.slice p l.length c) ∧ IsEnts (fun k => w.heap.size ≤ k) w' (.slice p l.length c) l.length l ∧ Mod nil w w' := by
 refine (?_ : ∀ Post : Ending → World → Prop, Hid (∀ e w', (∃ p c, e = .returned (.slice p l.length c) ∧ IsEnts (fun k => w.heap.size ≤ k) w' (.slice p l.length c) l.length l ∧ Mod nil w w') → Post e w') → Calls Tryz.prog 23 #[.pointer (some ⟨gb, 0, none⟩)] w Post) _ (Lib.hid (fun _ _ h => h))
 intro Post HPOST
 obtain ⟨C, E, cb, pl, cl, hg0, hch0, hen0, hC, hE⟩ := hlog.ex
 have c2 := cell_of hg0 2
 simp only [List.getElem?_toArray, List.getElem?_cons_zero, List.getElem?_cons_succ] at c2
 have HR := Lib.hid hen0.read
 obtain ⟨n, hln⟩ : ∃ n, l.length = n := ⟨_, rfl⟩
 rw [hln] at c2 hn HR HPOST
 have HN := Lib.hid hln
 have HL := Lib.hid hl
 obtain ⟨B, hB⟩ : ∃ B, w.heap.size = B := ⟨_, rfl⟩
 rw [hB] at HPOST
 have HB := Lib.hid hB
 clear hlog hg0 hch0 hen0 hC hE hl hln hB
 go_enter Tryz.func23, Tryz.ntmps23
 go_wp2_with fail
 go_loopw [3, 11] (fun v3 v11 wr => ∃ (i : Nat) (q : Option Addr) (cq : Nat), i ≤ n ∧ v11 = .int .i64 i ∧ v3 = .slice q i cq ∧ Hid (IsEnts (fun k => B ≤ k) wr (.slice q i cq) i (l.take i)) ∧ Hid (Mod nil w wr)) (fun _ v _ => n - (intOf v).toNat)
 case atStart => exact ⟨0, none, 0, by omega, rfl, rfl, Lib.hid (IsEnts.nil _ _), Lib.hid (Mod.refl _ _)⟩
 case round =>
  obtain ⟨i, q, cq, hi, rfl, rfl, HV, HMW⟩ := hrel
  by_cases hlt : i < n
  ·have hil : i < l.length := by rw [HN.out]; exact hlt
   obtain ⟨b, off, x, rfl, -, hbw, k0, k1, hrow⟩ := (HR.out.modNil HMW.out).at i hil
   have HT : Hid (l.take (i + 1) = l.take i ++ [l[i]]) := Lib.hid (List.take_succ_eq_append_getElem hil)
   have hbl := HL.out _ (List.getElem_mem hil)
   obtain ⟨ee, hee⟩ : ∃ ee, l[i] = ee := ⟨_, rfl⟩
   rw [hee] at k0 hrow hbl HT
   obtain ⟨kk, bx⟩ := ee
   simp only at k0 hrow hbl
   obtain ⟨px, cx, rfl, -⟩ := id hrow
   rw [bys_length] at k1 hrow
   obtain ⟨nx, hnx⟩ : ∃ nx, bx.length = nx := ⟨_, rfl⟩
   rw [hnx] at k1 hrow hbl
   have HNX := Lib.hid hnx
   have HROW := Lib.hid hrow
   clear hee hnx hrow
   go_upto_region 5 with (fail)
   generalize hw2 : World.alloc wr _ = w2
   have hx2 : w2.heap[wr.heap.size]? = some (.cells #[.int .i64 kk, .slice px nx cx] 42 (0, 0)) := by rw [← hw2]; exact heap_alloc_new _ _
   have hm2 : Mod nil wr w2 := by rw [← hw2]; exact (Mod.refl _ _).alloc _
   have HM2 := Lib.hid hm2
   have HX2 := Lib.hid hx2
   have HCL : Hid (∀ W, Mod nil w2 W → Calls Tryz.prog 50 #[.slice px nx cx] W fun e w' => ∃ p c, e = .returned (.slice p nx c) ∧ IsVec (fun k => w2.heap.size ≤ k) w' 5 1 (.slice p nx c) nx (bys bx) ∧ Mod nil W w') := Lib.hid (fun W m => by
    refine (bytesClone _ _ bx W (HROW.out.modNil (HM2.out.thenNil m)) (by rw [HNX.out]; omega)).mono ?_
    rintro e w' ⟨v, rfl, hv, hmm⟩
    rw [HNX.out] at hv
    obtain ⟨p', c', rfl⟩ := hv.form
    exact ⟨p', c', rfl, hv.mono (fun k _ h => Nat.le_trans m.size h), hmm⟩)
   have HK : Hid (∀ W, Mod (fun k => (Value.slice q i cq).ownBlock = some k) w2 W → (fun w' => w'.cell? ⟨wr.heap.size, 0, none⟩ = some (.int .i64 kk) ∧ w'.cell? ⟨wr.heap.size, 1, none⟩ = some (.slice px nx cx)) W) := Lib.hid (fun W m => by
    have x0 := cell_of HX2.out 0
    have x1 := cell_of HX2.out 1
    simp only [List.getElem?_toArray, List.getElem?_cons_zero, List.getElem?_cons_succ] at x0 x1
    have hno : ¬ (Value.slice q i cq).ownBlock = some wr.heap.size := fun ho => by have := (HV.out.own ho).2; omega
    exact ⟨cell_kept x0 m (heap_lt HX2.out) hno, cell_kept x1 m (heap_lt HX2.out) hno⟩)
   clear hw2 hx2 hm2 k0 k1
   refine region_till (fun w' => w'.cell? ⟨wr.heap.size, 0, none⟩ = some (.int .i64 kk) ∧ w'.cell? ⟨wr.heap.size, 1, none⟩ = some (.slice px nx cx)) 9 (by kernel_rfl) ?_
   refine sF 0 (fun _ => HK.out _ mD) ?_
   refine sF 1 (fun _ => HK.out _ mD) ?_
   refine sT 2 (HK.out _ mD) ?_
   refine sF 3 (fun _ => HK.out _ mD) ?_
   refine sT 4 (HK.out _ mD) ?_
   refine rT 5 (fun K hK => ?_)
   go_simp
   refine (HCL.out _ ?_).mono ?_
   ·exact mD
   rintro e w3 ⟨p3, c3, rfl, hv3, hm3⟩
   have hm3n : Mod nil w2 w3 := (show Mod nil w2 _ from mD).thenNil hm3
   have hm3' : Mod (fun k => (Value.slice q i cq).ownBlock = some k) w2 w3 := hm3n.ofNil
   obtain ⟨v8, w8, hrun8, hv8, hm8, ho8⟩ := ents_append (R := fun k => w2.heap.size ≤ k) (w := w3) (e := ⟨kk, bx⟩) 59 ((HV.out.modNil HM2.out).modNil hm3n) hv3.row (fun k hk => ⟨by have := HB.out; have := HMW.out.size; have := HM2.out.size; have : w2.heap.size ≤ k := hk; omega, fun ho => by have := (HV.out.own ho).2; have := HM2.out.size; have : w2.heap.size ≤ k := hk; omega⟩) rfl (by omega)
   obtain ⟨p8, c8, rfl⟩ := hv8.form
   have hm8' : Mod (fun k => (Value.slice q i cq).ownBlock = some k) w2 w8 := hm3'.trans hm8 (fun _ _ h => h)
   have HV8 : Hid (IsEnts (fun k => B ≤ k) w8 (.slice p8 (i + 1) c8) (i + 1) (l.take i ++ [⟨kk, bx⟩])) := Lib.hid (hv8.mono (fun k _ h => h.elim id (fun h => by have := HB.out; have := HMW.out.size; have := HM2.out.size; have := hm3n.size; omega)))
   have HM8 := Lib.hid hm8'
   clear hv8 ho8 hv3
   refine hK.out _ _ (fun _ => HK.out _ mD) ?_
   clear hK K
   (try simp only [Act.put, pT])
   refine sF 6 (fun _ => HK.out _ mD) ?_
   refine rT 7 (fun K hK => ?_)
   go_simp
   refine hK.out _ _ (fun _ => HK.out _ mD) ?_
   clear hK K
   (try simp only [Act.put, pT])
   refine rT 8 (fun K hK => ?_)
   refine step_append_run rfl _ _ _ _ rfl rfl rfl hrun8 ?_
   refine hK.out _ _ (fun _ => HK.out _ mD) ?_
   clear hK K
   (try simp only [Act.put, pT])
   refine rT 9 (fun K hK => ?_)
   go_simp
   refine hK.out _ _ (fun h => (by simp at h)) ?_
   clear hK K
   (try simp only [Act.put, pT])
   refine till_done (by kernel_rfl) ?_ _
   have hmf : Mod nil w w8 := (HMW.out.thenNil HM2.out).new HM8.out (fun k ho => by have := (HV.out.own ho).1; have := HB.out; omega)
   have HMF := Lib.hid hmf
   rw [← HT.out] at HV8
   clear hmf hm8 hm8' hrun8 hm3 hm3n hm3'
   go_wp2_with fail
   exact ⟨⟨i + 1, p8, c8, by omega, by go_num, rfl, HV8, HMF⟩, by simp [intOf]; omega⟩
  ·obtain rfl : i = n := by omega
   have HE : Hid (Post (.returned (.slice q i cq)) wr) := Lib.hid (HPOST.out _ _ ⟨q, cq, rfl, by
    have h := HV.out
    rw [List.take_of_length_le (by rw [HN.out]; exact Nat.le_refl _)] at h
    exact h, HMW.out⟩)
   clear HV HMW
   go_wp2_with fail
   exact HE.out
theorem logHead (S : Nat → Prop) (gb tb : Nat) (l : List En) (w : World) (hlog : IsLog S w gb tb l) :
  Calls Tryz.prog 26 #[.pointer (some ⟨gb, 0, none⟩)] w fun e w' => ∃ p c, e = .returned (.slice p 32 c) ∧ IsVec (fun k => w.heap.size ≤ k) w' 5 1 (.slice p 32 c) 32 (bys (headH l)) ∧ Mod nil w w' := by
 refine (?_ : ∀ Post : Ending → World → Prop, Hid (∀ e w', (∃ p c, e = .returned (.slice p 32 c) ∧ IsVec (fun k => w.heap.size ≤ k) w' 5 1 (.slice p 32 c) 32 (bys (headH l)) ∧ Mod nil w w') → Post e w') → Calls Tryz.prog 26 #[.pointer (some ⟨gb, 0, none⟩)] w Post) _ (Lib.hid (fun _ _ h => h))
 intro Post HPOST
 obtain ⟨C, E, cb, pl, cl, hg0, hch0, hen0, hC, hE⟩ := hlog.ex
 have c1 := cell_of hg0 1
 simp only [List.getElem?_toArray, List.getElem?_cons_zero, List.getElem?_cons_succ] at c1
 have HC := Lib.hid (chainHead C cb tb _ _ w hch0)
 clear hlog hg0 hch0 hen0 hC hE
 go_enter Tryz.func26, Tryz.ntmps26
 go_wp2_with fail
 refine HC.out.mono ?_
 rintro e w1 ⟨p', c', rfl, hv, hm⟩
 have HE := Lib.hid (HPOST.out _ _ ⟨p', c', rfl, hv, hm⟩)
 clear hv hm
 go_wp2_with fail
 exact HE.out
theorem logLen (S : Nat → Prop) (gb tb : Nat) (l : List En) (w : World) (hlog : IsLog S w gb tb l) :
  Calls Tryz.prog 24 #[.pointer (some ⟨gb, 0, none⟩)] w fun e w' => e = .returned (.int .i64 l.length) ∧ w = w' := by
 obtain ⟨C, E, cb, pl, cl, hg0, hch0, hen0, hC, hE⟩ := hlog.ex
 have c1 := cell_of hg0 1
 simp only [List.getElem?_toArray, List.getElem?_cons_zero, List.getElem?_cons_succ] at c1
 obtain ⟨n, hn⟩ : ∃ n, l.length = n := ⟨_, rfl⟩
 have HC := Lib.hid (chainLen C cb tb _ _ w hch0)
 rw [hn] at HC
 rw [hn]
 clear hlog hg0 hch0 hen0 hC hE hn
 go_enter Tryz.func24, Tryz.ntmps24
 go_wp2_with fail
 refine HC.out.mono ?_
 rintro e w1 ⟨rfl, rfl⟩
 go_wp2_with fail
 go_ret
 exact ⟨rfl, rfl⟩
end Go.Proofs.YtdfahddpkkeldaaGreat

/- Package chain: Export; the log's Bundle. (Printed by wip/tools/gen_export.py.) -/
namespace Go.Proofs.YtdfahddpkkeldaaGreat
open Go.RowKit
def bodyB (l : List En) : List UInt8 := (l.map (fun e => entStart e.k.toNat e.b.length ++ e.b)).flatten
def exportF (l : List En) : List UInt8 := headH l ++ layC l.length 2 2 ++ bodyB l
theorem bodyB_snoc (l : List En) (e : En) : bodyB (l ++ [e]) = bodyB l ++ (entStart e.k.toNat e.b.length ++ e.b) := by simp [bodyB]
theorem bodyB_take_le (l : List En) (i : Nat) : (bodyB (l.take i)).length ≤ (bodyB l).length := by
 conv => rhs; rw [← List.take_append_drop i l]
 unfold bodyB
 rw [List.map_append, List.flatten_append, List.length_append]
 omega
/-- append to a byte slice of the program's own, by the lengths -/
theorem bytes_append_own {S T : Nat → Prop} {w : World} (ty : TypeId) {v x : Value} {l m : List UInt8} {n k : Nat} (hn : l.length = n) (hk : m.length = k) (hv : IsVec S w 5 1 v n (bys l)) (hx : IsRow T w x (bys m)) (hb : n + k ≤ 140737488355328) :
  ∃ p c w', (Builtin.append_ #[40, 40] ty #[v, x]).run Tryz.prog w = .ok (.slice p (n + k) c) w' ∧ IsVec (fun j => v.ownBlock = some j ∨ w.heap.size ≤ j) w' 5 1 (.slice p (n + k) c) (n + k) (bys (l ++ m)) ∧ Mod (fun j => v.ownBlock = some j) w w' := by
 subst hn; subst hk
 obtain ⟨v', w', h1, h2, h3⟩ := bytes_append (l := l) (m := m) ty (show IsVec (fun j => v.ownBlock = some j) _ _ _ _ _ _ from ⟨hv.1, fun _ h => h⟩) hx hb
 rw [List.length_append] at h2
 obtain ⟨p, c, rfl⟩ := h2.form
 exact ⟨p, c, w', h1, h2, h3⟩
set_option maxRecDepth 100000 in
set_option maxHeartbeats 4000000 in
theorem chainExport (T : Nat → Prop) (tb n c : Nat) (p : Option Addr) (l : List En) (w : World) (hl : IsEns T w (.slice p n c) l) (ht : IsTab w tb) (hT : ∀ k, T k → k < w.heap.size ∧ k ≠ tb) (hok : ∀ e ∈ l, 0 ≤ e.k ∧ e.k ≤ 255 ∧ e.b.length ≤ 60000) (hn : n ≤ 65535) (hsz : (bodyB l).length ≤ 1099511620000) :
  Calls Tryz.prog 46 #[.pointer (some ⟨tb, 0, none⟩), .slice p n c] w fun e w' => ∃ p' c', e = .returned (.tuple #[.slice p' (exportF l).length c', .int .i64 0]) ∧ IsVec (fun k => w.heap.size ≤ k) w' 5 1 (.slice p' (exportF l).length c') (exportF l).length (bys (exportF l)) ∧ IsTab w' tb ∧ Mod (· = tb) w w' := by
 refine (?_ : ∀ Post : Ending → World → Prop, Hid (∀ e w', (∃ p' c', e = .returned (.tuple #[.slice p' (exportF l).length c', .int .i64 0]) ∧ IsVec (fun k => w.heap.size ≤ k) w' 5 1 (.slice p' (exportF l).length c') (exportF l).length (bys (exportF l)) ∧ IsTab w' tb ∧ Mod (· = tb) w w') → Post e w') → Calls Tryz.prog 46 #[.pointer (some ⟨tb, 0, none⟩), .slice p n c] w Post) _ (Lib.hid (fun _ _ h => h))
 intro Post HPOST
 have hln : l.length = n := by obtain ⟨_, _, h⟩ := hl.form; simp only [Value.slice.injEq] at h; exact h.2.1.symm
 have HLN := Lib.hid hln
 have HL := Lib.hid hl
 have HT := Lib.hid ht
 have HTT := Lib.hid hT
 have HOK := Lib.hid hok
 have HSZ := Lib.hid hsz
 have htl := ht.lt
 obtain ⟨B, hB⟩ : ∃ B, w.heap.size = B := ⟨_, rfl⟩
 rw [hB] at HPOST
 have HB := Lib.hid hB
 have htB : tb < B := by omega
 clear hl ht hT hok hsz hln hB htl
 go_enter Tryz.func46, Tryz.ntmps46
 go_wp2_with fail
 refine (chainNew tb w).mono ?_
 rintro e w1 ⟨cb, rfl, hch1, hm1⟩
 have HCH1 := Lib.hid hch1
 have HM1 := Lib.hid hm1
 have hcB : B ≤ cb := by have := hch1.own; have := HB.out; omega
 clear hch1 hm1
 go_wp2_with fail
 go_loopw [7, 18] (fun v7 v18 wr => ∃ (i m : Nat) (q : Option Addr) (cq : Nat), i ≤ n ∧ v18 = .int .i64 i ∧ v7 = .slice q m cq ∧ Hid ((bodyB (l.take i)).length = m) ∧ Hid (IsVec (fun k => B ≤ k ∧ k ≠ cb) wr 5 1 (.slice q m cq) m (bys (bodyB (l.take i)))) ∧ Hid (IsChain (fun k => B ≤ k ∧ ¬ (Value.slice q m cq).ownBlock = some k) wr cb tb (headH (l.take i)) i) ∧ Hid (IsTab wr tb) ∧ Hid (Mod (· = tb) w wr)) (fun _ v _ => n - (intOf v).toNat)
 case atStart => exact ⟨0, 0, none, 0, by omega, rfl, rfl, Lib.hid rfl, Lib.hid (IsVec.nil _ _ _ _), Lib.hid (HCH1.out.mono (fun k _ h => ⟨by have := HB.out; omega, by simp [Value.ownBlock]⟩)), Lib.hid (HT.out.mod HM1.out (not_nil _)), Lib.hid HM1.out.ofNil⟩
 case round =>
  obtain ⟨i, m, q, cq, hi, rfl, rfl, HML, HV, HCH, HTR, HMR⟩ := hrel
  have hmb : m ≤ 1099511620000 := by rw [← HML.out]; exact Nat.le_trans (bodyB_take_le l i) HSZ.out
  by_cases hlt : i < n
  ·have hil : i < l.length := by rw [HLN.out]; exact hlt
   obtain ⟨ba, oa, xa, rfl, hTa, hal, k0, k1, hxa⟩ := (HL.out.mod HMR.out (fun k _ h e => (HTT.out k h).2 e)).at i hil
   have HTK : Hid (l.take (i + 1) = l.take i ++ [l[i]]) := Lib.hid (List.take_succ_eq_append_getElem hil)
   have hokx := HOK.out _ (List.getElem_mem hil)
   obtain ⟨ee, hee⟩ : ∃ ee, l[i] = ee := ⟨_, rfl⟩
   rw [hee] at k0 hxa HTK hokx
   obtain ⟨kz, bx⟩ := ee
   simp only at k0 hxa hokx
   obtain ⟨kk, rfl⟩ := Int.eq_ofNat_of_zero_le hokx.1
   obtain ⟨px, cx, rfl, -⟩ := id hxa
   rw [bys_length] at k1 hxa
   obtain ⟨nx, hnx⟩ : ∃ nx, bx.length = nx := ⟨_, rfl⟩
   rw [hnx] at k1 hxa hokx
   obtain ⟨-, hkk, hnx6⟩ := hokx
   have hkk : kk ≤ 255 := by omega
   have HNX := Lib.hid hnx
   have HRX := Lib.hid hxa
   have hBs : B ≤ wr.heap.size := by have := HMR.out.size; have := HB.out; omega
   have hmb2 : m + 5 + nx ≤ 1099511620000 := by
    have h := Nat.le_trans (bodyB_take_le l (i + 1)) HSZ.out
    rw [HTK.out, bodyB_snoc, List.length_append, List.length_append, entStart_length, HML.out] at h
    simp only at h
    rw [hnx] at h
    omega
   obtain ⟨X, hX⟩ : ∃ X, wr.heap.size = X := ⟨_, rfl⟩
   have HX := Lib.hid hX
   have HADD : Hid (∀ W, Mod nil wr W → Calls Tryz.prog 35 #[.pointer (some ⟨cb, 0, none⟩), .agg #[.int .i64 (kk : Nat), .slice px nx cx]] W fun e w' => e = .returned (.int .i64 0) ∧ IsTab w' tb ∧ IsChain (fun k => (B ≤ k ∧ ¬ (Value.slice q m cq).ownBlock = some k) ∨ W.heap.size ≤ k) w' cb tb (headH (l.take (i + 1))) (i + 1) ∧ Mod (fun j => j = cb ∨ j = tb) W w') := Lib.hid (fun W mm => by
    refine (chainAdd _ T cb tb i kk nx cx (headH (l.take i)) bx px W (HCH.out.modNil mm) (HTR.out.mod mm (not_nil _)) (HRX.out.modNil mm) (fun h => by have := h.1; omega) hkk hnx6 (by omega)).mono ?_
    rintro e w' ⟨rfl, ht, hch, hmm⟩
    exact ⟨rfl, ht, by rw [HTK.out, headH_snoc]; exact hch, hmm⟩)
   clear hee hnx hxa hX
   go_wp2_with fail
   (try rw [HX.out])
   generalize hw2 : World.alloc wr _ = w2
   have hx2 : w2.heap[X]? = some (.cells #[.int .i64 (kk : Nat), .slice px nx cx] 42 (0, 0)) := by rw [← hw2, ← HX.out]; exact heap_alloc_new _ _
   have hm2 : Mod nil wr w2 := by rw [← hw2]; exact (Mod.refl _ _).alloc _
   have HX2 := Lib.hid hx2
   have HM2 := Lib.hid hm2
   have hs2 : w2.heap.size = X + 1 := by rw [← hw2, World.size_alloc, HX.out]
   refine (HADD.out w2 hm2).mono ?_
   rintro e w3 ⟨rfl, ht3, hch3, hm3⟩
   have HS2 := Lib.hid hs2
   have HT3 := Lib.hid ht3
   have HCH3 := Lib.hid hch3
   have HM3 := Lib.hid hm3
   have hs23 := hm3.size
   have hX3 : X < w3.heap.size := by omega
   have HX3 : Hid (w3.heap[X]? = _) := Lib.hid ((hm3.block X (heap_lt hx2) (by have := HCH.out.lt; have := HX.out; omega)).trans hx2)
   have HM03 : Hid (Mod (fun j => j = cb ∨ j = tb) wr w3) := Lib.hid (hm2.ofNil.trans hm3 (fun _ _ h => h))
   have HV3 : Hid (IsVec (fun k => B ≤ k ∧ k ≠ cb) w3 5 1 (.slice q m cq) m (bys (bodyB (l.take i)))) := Lib.hid (HV.out.mod HM03.out (fun k _ h e => by omega))
   have HRX3 : Hid (IsRow T w3 (.slice px nx cx) (bys bx)) := Lib.hid (HRX.out.mod HM03.out (fun k _ h e => by have := HTT.out k h; have := HB.out; omega))
   have hol : ∀ k, (Value.slice q m cq).ownBlock = some k → B ≤ k ∧ k < X := fun k h => ⟨(HV.out.2 k h).1, by have := (HV.out.1.lt k h).2; have := HX.out; omega⟩
   have HOL := Lib.hid hol
   have HTO : Hid (∀ k, T k → ¬ (Value.slice q m cq).ownBlock = some k) := Lib.hid (fun k h ho => by have := HTT.out k h; have := hol k ho; have := HB.out; omega)
   have HST : Hid (∀ W, Mod nil w3 W → Calls Tryz.prog 64 #[.agg #[.int .i64 (kk : Nat), .slice px nx cx]] W fun e w' => ∃ p c, e = .returned (.slice p 5 c) ∧ IsVec (fun k => W.heap.size ≤ k) w' 5 1 (.slice p 5 c) 5 (bys (entStart kk nx)) ∧ Mod nil W w') := Lib.hid (fun W mm => by
    refine (chainStarts kk nx cx px W hkk hnx6).mono ?_
    rintro e w' ⟨v, rfl, hv, hmm⟩
    obtain ⟨p', c', rfl⟩ := hv.form
    exact ⟨p', c', rfl, hv, hmm⟩)
   have HK : Hid (∀ W, Mod (fun k => (Value.slice q m cq).ownBlock = some k) w3 W → (fun w' => w'.cell? ⟨X, 0, none⟩ = some (.int .i64 (kk : Nat)) ∧ w'.cell? ⟨X, 1, none⟩ = some (.slice px nx cx)) W) := Lib.hid (fun W mm => by
    have x0 := cell_of HX3.out 0
    have x1 := cell_of HX3.out 1
    simp only [List.getElem?_toArray, List.getElem?_cons_zero, List.getElem?_cons_succ] at x0 x1
    have hno : ¬ (Value.slice q m cq).ownBlock = some X := fun h => by have := HOL.out X h; omega
    exact ⟨cell_kept x0 mm hX3 hno, cell_kept x1 mm hX3 hno⟩)
   clear hw2 hx2 hm2 hs2 ht3 hch3 hm3 hs23 hol k0 k1 HADD
   go_upto_region 9 with (fail)
   refine wp_region_held_drew (S := (fun w' => w'.cell? ⟨X, 0, none⟩ = some (.int .i64 (kk : Nat)) ∧ w'.cell? ⟨X, 1, none⟩ = some (.slice px nx cx))) (by kernel_rfl) (HK.out _ mD) (fun hHeld => ?_)
   refine sH 0 ?_
   refine sH 1 ?_
   refine sH 4 ?_
   refine sH 5 ?_
   refine rH 2 (fun K hK => ?_)
   go_simp
   refine (HST.out _ ?_).mono ?_
   ·exact mD
   rintro e w4 ⟨p4, c4, rfl, hv4, hm4⟩
   have hm4n : Mod nil w3 w4 := (show Mod nil w3 _ from mD).thenNil hm4
   have hm4o : Mod (fun k => (Value.slice q m cq).ownBlock = some k) w3 w4 := hm4n.ofNil
   obtain ⟨p8, c8, w8, hrun8, hvec8, hmod8⟩ := bytes_append_own 40 HML.out (entStart_length kk nx) (HV3.out.modNil hm4n) hv4.row (by omega)
   have hm8 : Mod (fun k => (Value.slice q m cq).ownBlock = some k) w3 w8 := hm4o.trans hmod8 (fun _ _ h => h)
   have hrow8 : IsRow T w8 (.slice px nx cx) (bys bx) := HRX3.out.mod hm8 (fun k hk hT ho => HTO.out k hT ho)
   obtain ⟨p9, c9, w9, hrun9, hvec9, hmod9⟩ := bytes_append_own 40 (l := bodyB (l.take i) ++ entStart kk nx) (n := m + 5) (by rw [List.length_append, entStart_length, HML.out]) HNX.out hvec8 hrow8 (by omega)
   have hown8 : ∀ k, (Value.slice p8 (m + 5) c8).ownBlock = some k → (Value.slice q m cq).ownBlock = some k ∨ w4.heap.size ≤ k := fun k h => hvec8.2 k h
   have hmod9' : Mod (fun k => (Value.slice q m cq).ownBlock = some k) w3 w9 := hm8.trans hmod9 (fun k hk h => (hown8 k h).elim id (fun h => by have := hm4n.size; omega))
   have HV9 := Lib.hid hvec9
   have HO8 := Lib.hid hown8
   have hs49 : w3.heap.size ≤ w4.heap.size ∧ w4.heap.size ≤ w8.heap.size := ⟨hm4n.size, hmod8.size⟩
   clear hvec9 hvec8 hv4 hrow8 hown8
   refine hK.out _ _ (HK.out _ mD) (fun hHeld => ?_)
   clear hK K
   (try simp only [Act.put, pT])
   refine rH 3 (fun K hK => ?_)
   refine step_append_run rfl _ _ _ _ rfl rfl rfl hrun8 ?_
   refine hK.out _ _ (HK.out _ mD) (fun hHeld => ?_)
   clear hK K
   (try simp only [Act.put, pT])
   refine rH 6 (fun K hK => ?_)
   refine step_append_run rfl _ _ _ _ rfl rfl rfl hrun9 ?_
   refine hK.out _ _ (HK.out _ mD) (fun hHeld => ?_)
   clear hK K
   (try simp only [Act.put, pT])
   refine sH 7 ?_
   refine wpAnyH_done (by kernel_rfl) ?_ _
   have hend : bodyB (l.take i) ++ entStart kk nx ++ bx = bodyB (l.take (i + 1)) := by rw [HTK.out, bodyB_snoc]; simp only [Int.toNat_natCast, HNX.out, List.append_assoc]
   have hV9 := HV9.out
   rw [hend] at hV9
   have hML9 : (bodyB (l.take (i + 1))).length = m + 5 + nx := by rw [← hend, List.length_append, List.length_append, entStart_length, HML.out, HNX.out]
   have HML9 := Lib.hid hML9
   have h49 := hs49
   have HV9b : Hid (IsVec (fun k => B ≤ k ∧ k ≠ cb) w9 5 1 (.slice p9 (m + 5 + nx) c9) (m + 5 + nx) (bys (bodyB (l.take (i + 1))))) := Lib.hid (hV9.mono (fun k _ h => by
    rcases h with h | h
    ·rcases HO8.out k h with h | h
     ·exact HV.out.2 k h
     ·have := HCH.out.lt; have := HX.out; exact ⟨by omega, by omega⟩
    ·have := HCH.out.lt; have := HX.out; exact ⟨by omega, by omega⟩))
   have hown9 : ∀ k, (Value.slice p9 (m + 5 + nx) c9).ownBlock = some k → (Value.slice q m cq).ownBlock = some k ∨ w3.heap.size ≤ k := fun k h => by
    rcases hV9.2 k h with h | h
    ·rcases HO8.out k h with h | h
     ·exact .inl h
     ·exact .inr (by omega)
    ·exact .inr (by omega)
   have HCH9 : Hid (IsChain (fun k => B ≤ k ∧ ¬ (Value.slice p9 (m + 5 + nx) c9).ownBlock = some k) w9 cb tb (headH (l.take (i + 1))) (i + 1)) := Lib.hid (by
    have h1 := HCH3.out.mono (T := fun k => (B ≤ k ∧ ¬ (Value.slice q m cq).ownBlock = some k) ∧ k < w3.heap.size) (fun k hk h => by
     rcases h with h | h
     ·exact ⟨h, hk⟩
     ·have := HS2.out; exact ⟨⟨by have := HX.out; omega, fun ho => by have := HOL.out k ho; omega⟩, hk⟩)
    have h2 := h1.mod hmod9' (fun k _ h ho => h.1.2 ho)
    exact h2.mono (fun k _ h => ⟨h.1.1, fun ho => (hown9 k ho).elim h.1.2 (fun x => by have := h.2; omega)⟩))
   have HT9 : Hid (IsTab w9 tb) := Lib.hid (HT3.out.mod hmod9' (fun h => by have := HOL.out tb h; omega))
   have HM9 : Hid (Mod (· = tb) w w9) := Lib.hid (HMR.out.trans ((HM03.out.mono (T := fun j => (j = cb ∨ j = tb) ∨ (Value.slice q m cq).ownBlock = some j) (fun _ _ h => .inl h)).trans hmod9' (fun _ _ h => .inr h)) (fun k hk h => by
    rcases h with (h | h) | h
    ·have := HB.out; omega
    ·exact h
    ·have := HOL.out k h; have := HB.out; omega))
   clear hV9 hend hML9 hown9 hmod9' hm8 hmod8 hmod9 hm4 hm4n hrun8 hrun9 hHeld HK
   go_wp2_with fail
   exact ⟨⟨i + 1, m + 5 + nx, p9, c9, by omega, by go_num, rfl, HML9, HV9b, HCH9, HT9, HM9⟩, by simp [intOf]; omega⟩
  ·obtain rfl : i = n := by omega
   have hfull : l.take i = l := List.take_of_length_le (by rw [HLN.out]; exact Nat.le_refl _)
   have HVL : Hid (IsVec (fun k => B ≤ k ∧ k ≠ cb) wr 5 1 (.slice q m cq) m (bys (bodyB l))) := Lib.hid (by have h := HV.out; rw [hfull] at h; exact h)
   have HCL : Hid (IsChain (fun k => B ≤ k ∧ ¬ (Value.slice q m cq).ownBlock = some k) wr cb tb (headH l) i) := Lib.hid (by have h := HCH.out; rw [hfull] at h; exact h)
   have HMLL : Hid ((bodyB l).length = m) := Lib.hid (by have h := HML.out; rw [hfull] at h; exact h)
   clear hfull HV HCH HML
   go_wp2_with fail
   refine (wireNewEnc wr).mono ?_
   rintro e w2 ⟨eb, rfl, he2, hm2⟩
   have HE2 := Lib.hid he2
   have HM2 := Lib.hid hm2
   have hs2 := hm2.size
   clear he2 hm2
   go_wp2_with fail
   refine (encNum wr.heap.size eb _ i 2 w2 HE2.out hs2 (by omega) (by omega) (by omega) (Nat.lt_of_le_of_lt hn (by decide)) (by simp)).mono ?_
   rintro e w3 ⟨rfl, he3, hm3⟩
   have HE3 := Lib.hid he3
   have HM3 : Hid (Mod nil wr w3) := Lib.hid (HM2.out.new hm3 (fun k h => h))
   clear he3 hm3 hs2
   go_wp2_with fail
   refine (encDone wr.heap.size eb _ w3 HE3.out (by simp [layC_length])).mono ?_
   rintro e w4 ⟨v4, rfl, hv4, hm4⟩
   have hl4 : ([] ++ layC i 2 2).length = 2 := by simp [layC_length]
   rw [hl4, List.nil_append] at hv4
   obtain ⟨p4, c4, rfl⟩ := hv4.form
   have HV4 := Lib.hid hv4
   have HM4 := Lib.hid (HM3.out.thenNil hm4)
   clear hv4 hm4 hl4
   go_wp2_with fail
   refine (chainHead _ cb tb i (headH l) w4 (HCL.out.modNil HM4.out)).mono ?_
   rintro e w5 ⟨p5, c5, rfl, hv5, hm5⟩
   have HV5 := Lib.hid hv5
   have HM5 := Lib.hid hm5
   obtain ⟨G, hG⟩ : ∃ G, w5.heap.size = G := ⟨_, rfl⟩
   have HG := Lib.hid hG
   clear hv5 hm5 hG
   go_wp2_with fail
   (try rw [HG.out])
   generalize hw6 : World.alloc w5 _ = w6
   have hg6 : w6.heap[G]? = some (.cells #[.slice p5 32 c5, .slice p4 2 c4, .slice q m cq] 40 (0, 0)) := by rw [← hw6, ← HG.out]; exact heap_alloc_new _ _
   have hm6 : Mod nil w5 w6 := by rw [← hw6]; exact (Mod.refl _ _).alloc _
   have hm46 := HM5.out.thenNil hm6
   have hm06 : Mod nil wr w6 := HM4.out.thenNil hm46
   have h3 := IsLs.three (S := fun _ => True) hg6 trivial (((HV5.out.row).modNil hm6).mono (fun _ _ _ => trivial)) ((HV4.out.row.modNil hm46).mono (fun _ _ _ => trivial)) ((HVL.out.row.modNil hm06).mono (fun _ _ _ => trivial))
   have HCC := Lib.hid (concatBytes _ _ _ w6 h3 (by simp) (by simp [headH_length, layC_length, HMLL.out]; omega))
   have hfl : [headH l, layC i 2 2, bodyB l].flatten = exportF l := by simp [exportF, HLN.out]
   rw [hfl] at HCC
   have HM06 := Lib.hid hm06
   clear hw6 hg6 hm6 hm46 hm06 h3 hfl
   refine HCC.out.mono ?_
   rintro e w7 ⟨v7, rfl, hv7, hm7⟩
   obtain ⟨p7, c7, rfl⟩ := hv7.form
   have HE := Lib.hid (HPOST.out _ _ ⟨p7, c7, rfl, hv7.mono (fun k _ h => by have := HM06.out.size; have := HMR.out.size; have := HB.out; omega), (HTR.out.mod (HM06.out.thenNil hm7) (not_nil _)), HMR.out.thenNil (HM06.out.thenNil hm7)⟩)
   clear hv7 hm7
   go_wp2_with fail
   exact HE.out
set_option maxRecDepth 100000 in
set_option maxHeartbeats 2000000 in
theorem logBundle (S : Nat → Prop) (gb tb : Nat) (l : List En) (w : World) (hlog : IsLog S w gb tb l) (ht : IsTab w tb) (hS : ∀ k, S k → ¬ k = tb) (hok : ∀ e ∈ l, 0 ≤ e.k ∧ e.k ≤ 255 ∧ e.b.length ≤ 60000) (hn : l.length ≤ 10000) :
  Calls Tryz.prog 20 #[.pointer (some ⟨gb, 0, none⟩)] w fun e w' => ∃ p' c', e = .returned (.tuple #[.slice p' (exportF l).length c', .int .i64 0]) ∧ IsVec (fun k => w.heap.size ≤ k) w' 5 1 (.slice p' (exportF l).length c') (exportF l).length (bys (exportF l)) ∧ IsTab w' tb ∧ Mod (· = tb) w w' := by
 refine (?_ : ∀ Post : Ending → World → Prop, Hid (∀ e w', (∃ p' c', e = .returned (.tuple #[.slice p' (exportF l).length c', .int .i64 0]) ∧ IsVec (fun k => w.heap.size ≤ k) w' 5 1 (.slice p' (exportF l).length c') (exportF l).length (bys (exportF l)) ∧ IsTab w' tb ∧ Mod (· = tb) w w') → Post e w') → Calls Tryz.prog 20 #[.pointer (some ⟨gb, 0, none⟩)] w Post) _ (Lib.hid (fun _ _ h => h))
 intro Post HPOST
 obtain ⟨C, E, cb, pl, cl, hg0, hch0, hen0, hC, hE⟩ := hlog.ex
 have hsz : (bodyB l).length ≤ 60005 * l.length := by
  clear hlog hg0 hch0 hen0 hn HPOST
  induction l with
  | nil => simp [bodyB]
  | cons a l ih =>
   have h1 := ih (fun e he => hok e (List.mem_cons_of_mem _ he))
   have h2 := hok a (List.mem_cons_self ..)
   have h3 : bodyB (a :: l) = entStart a.k.toNat a.b.length ++ a.b ++ bodyB l := by simp [bodyB]
   rw [h3, List.length_append, List.length_append, entStart_length, List.length_cons]
   omega
 have hgt : ¬ gb = tb := hS gb hlog.own
 have HG0 := Lib.hid hg0
 have HEN := Lib.hid hen0.read
 have HT := Lib.hid ht
 have HET : Hid (∀ k, E k → ¬ k = tb) := Lib.hid (fun k h => hS k (hE k h).1)
 have HOK := Lib.hid hok
 obtain ⟨n, hnl⟩ : ∃ n, l.length = n := ⟨_, rfl⟩
 rw [hnl] at HG0 HEN hn hsz
 have HEX : Hid (∀ W, Mod nil w W → Calls Tryz.prog 46 #[.pointer (some ⟨tb, 0, none⟩), .slice pl n cl] W fun e w' => ∃ p' c', e = .returned (.tuple #[.slice p' (exportF l).length c', .int .i64 0]) ∧ IsVec (fun k => w.heap.size ≤ k) w' 5 1 (.slice p' (exportF l).length c') (exportF l).length (bys (exportF l)) ∧ IsTab w' tb ∧ Mod (· = tb) W w') := Lib.hid (fun W m => by
  refine (chainExport (fun k => E k ∧ k < w.heap.size) tb n cl pl l W ((HEN.out.mono (fun k hk h => ⟨h, hk⟩)).modNil m) (HT.out.mod m (not_nil _)) (fun k hk => ⟨Nat.lt_of_lt_of_le hk.2 m.size, HET.out k hk.1⟩) HOK.out (by omega) (by omega)).mono ?_
  rintro e w' ⟨p', c', rfl, hv, ht', hmm⟩
  exact ⟨p', c', rfl, hv.mono (fun k _ h => Nat.le_trans m.size h), ht', hmm⟩)
 have HK : Hid (∀ W, Mod (· = tb) w W → (fun w' => w'.cell? ⟨gb, 0, none⟩ = some (.pointer (some ⟨tb, 0, none⟩)) ∧ w'.cell? ⟨gb, 2, none⟩ = some (.slice pl n cl)) W) := Lib.hid (fun W m => by
  have c0 := cell_of HG0.out 0
  have c2 := cell_of HG0.out 2
  simp only [List.getElem?_toArray, List.getElem?_cons_zero, List.getElem?_cons_succ] at c0 c2
  exact ⟨cell_kept c0 m (heap_lt HG0.out) hgt, cell_kept c2 m (heap_lt HG0.out) hgt⟩)
 clear hlog ht hS hok hg0 hch0 hen0 hC hE hnl hsz
 go_enter Tryz.func20, Tryz.ntmps20
 go_upto_region 1 with (fail)
 refine wp_region_held_drew (S := (fun w' => w'.cell? ⟨gb, 0, none⟩ = some (.pointer (some ⟨tb, 0, none⟩)) ∧ w'.cell? ⟨gb, 2, none⟩ = some (.slice pl n cl))) (by kernel_rfl) (HK.out _ mD) (fun hHeld => ?_)
 refine sH 0 ?_
 refine sH 1 ?_
 refine sH 2 ?_
 refine sH 3 ?_
 refine sH 4 ?_
 refine sH 5 ?_
 refine sH 6 ?_
 refine sH 7 ?_
 refine rH 8 (fun K hK => ?_)
 go_simp
 refine (HEX.out _ ?_).mono ?_
 ·exact mD
 rintro e w1 ⟨p1, c1, rfl, hv1, ht1, hm1⟩
 have hm1' : Mod (· = tb) w w1 := (show Mod (· = tb) w _ from mD).trans hm1 (fun _ _ h => h)
 refine hK.out _ _ (HK.out _ mD) (fun hHeld => ?_)
 clear hK K
 (try simp only [Act.put, pT])
 refine sH 9 ?_
 refine sH 10 ?_
 refine sH 11 ?_
 refine sH 12 ?_
 refine wpAnyH_done (by kernel_rfl) ?_ _
 have HE := Lib.hid (HPOST.out _ w1 ⟨p1, c1, rfl, hv1, ht1, hm1'⟩)
 clear hv1 ht1 hm1 hm1' hHeld
 go_wp2_with fail
 exact HE.out
end Go.Proofs.YtdfahddpkkeldaaGreat

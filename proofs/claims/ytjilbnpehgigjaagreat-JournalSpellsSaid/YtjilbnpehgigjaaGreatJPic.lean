/- Slices of byte slices that the program made itself, each with room for its bytes. -/
import Derived.Test.YtjilbnpehgigjaaGreatTexts
import Derived.Test.YtjilbnpehgigjaaGreatJLays
import Derived.Deep.RegionHeld3
namespace Go.Proofs.YtjilbnpehgigjaaGreat
open Go.RowKit
/-- a slice holds no more than it has room for -/
def CapOk (x : Value) : Prop := ∀ p n c, x = .slice p n c → n ≤ c ∧ c ≤ maxLen
theorem IsVec.capOk {S : Nat → Prop} {w : World} {E : TypeId} {sz n : Nat} {v : Value} {xs : List Value} (h : IsVec S w E sz v n xs) : CapOk v := by
  obtain ⟨p, c, rfl, h1, h2⟩ := vecCap h
  intro p' n' c' e
  simp only [Value.slice.injEq] at e
  obtain ⟨rfl, rfl, rfl⟩ := e
  exact ⟨h1, h2⟩
def IsTextsC (S : Nat → Prop) (w : World) (v : Value) (n : Nat) (l : List (List UInt8)) : Prop :=
  ∃ vs, IsVec S w 22 1 v n vs ∧ Each2 (fun x t => IsRow (fun k => S k ∧ ¬ v.ownBlock = some k) w x (bys t) ∧ CapOk x) vs l
theorem IsTextsC.texts {S : Nat → Prop} {w : World} {v : Value} {n : Nat} {l : List (List UInt8)} (h : IsTextsC S w v n l) : IsTexts S w v n l := by
  obtain ⟨vs, h1, h2⟩ := h
  exact ⟨vs, h1, each2_imp (fun a b r => r.1) h2⟩
theorem IsTextsC.nil (S : Nat → Prop) (w : World) : IsTextsC S w (.slice none 0 0) 0 [] := ⟨[], IsVec.nil _ _ _ _, trivial⟩
theorem IsTextsC.len {S : Nat → Prop} {w : World} {v : Value} {n : Nat} {l : List (List UInt8)} (h : IsTextsC S w v n l) : l.length = n := h.texts.len
theorem IsTextsC.form {S : Nat → Prop} {w : World} {v : Value} {n : Nat} {l : List (List UInt8)} (h : IsTextsC S w v n l) : ∃ p c, v = .slice p n c := h.texts.form
theorem IsTextsC.own {S : Nat → Prop} {w : World} {v : Value} {n : Nat} {l : List (List UInt8)} (h : IsTextsC S w v n l) {k : Nat} (hk : v.ownBlock = some k) : S k ∧ k < w.heap.size := h.texts.own hk
theorem IsTextsC.mod {S T : Nat → Prop} {w w' : World} {v : Value} {n : Nat} {l : List (List UInt8)} (h : IsTextsC S w v n l) (m : Mod T w w') (hs : ∀ k, k < w.heap.size → S k → ¬ T k) : IsTextsC S w' v n l := by
  obtain ⟨vs, h1, h2⟩ := h
  exact ⟨vs, h1.mod m hs, each2_imp (fun a b r => ⟨r.1.mod m (fun k hk h => hs k hk h.1), r.2⟩) h2⟩
theorem IsTextsC.modNil {S : Nat → Prop} {w w' : World} {v : Value} {n : Nat} {l : List (List UInt8)} (h : IsTextsC S w v n l) (m : Mod Go.Proofs.YtjilbnpehgigjaaGreat.nil w w') : IsTextsC S w' v n l := h.mod m (fun _ _ _ f => f)
theorem IsTextsC.mono {S T : Nat → Prop} {w : World} {v : Value} {n : Nat} {l : List (List UInt8)} (h : IsTextsC S w v n l) (hs : ∀ k, k < w.heap.size → S k → T k) : IsTextsC T w v n l := by
  obtain ⟨vs, h1, h2⟩ := h
  exact ⟨vs, h1.mono hs, each2_imp (fun a b r => ⟨r.1.mono (fun k hk h => ⟨hs k hk h.1, h.2⟩), r.2⟩) h2⟩
/-- one of the texts -/
theorem IsTextsC.at {S : Nat → Prop} {w : World} {p : Option Addr} {n c : Nat} {l : List (List UInt8)} (h : IsTextsC S w (.slice p n c) n l) (i : Nat) (hi : i < n) :
    ∃ g x, p = some ⟨g, 0, none⟩ ∧ g < w.heap.size ∧ w.cell? ⟨g, i, none⟩ = some x ∧ IsRow S w x (bys (l.getD i [])) ∧ CapOk x := by
  have hl := h.len
  obtain ⟨vs, h1, h2⟩ := h
  have hvl : vs.length = n := by have := h1.len; omega
  obtain ⟨g, rfl, -, hg⟩ := vecBlock h1 (by omega)
  obtain ⟨p', c', hp, hcc⟩ := h1.row
  simp only [Value.slice.injEq] at hp
  obtain ⟨rfl, -, -⟩ := hp
  obtain ⟨b, off, q1, q2, q3, q4⟩ := hcc i (by omega)
  simp only [Option.some.injEq, Addr.mk.injEq, and_true] at q1
  obtain ⟨rfl, rfl⟩ := q1
  obtain ⟨h', hr⟩ := each2_get h2 i (by omega)
  rw [Nat.zero_add] at q4
  refine ⟨g, vs[i], rfl, hg, by rw [q4, List.getD_eq_getElem?_getD, List.getElem?_eq_getElem (by omega)]; rfl, ?_, hr.2⟩
  rw [List.getD_eq_getElem?_getD, List.getElem?_eq_getElem h']
  exact hr.1.mono (fun k _ h => h.1)
/-- append of one text -/
theorem textsC_append {S R : Nat → Prop} {w : World} (ty : TypeId) {v x : Value} {n g : Nat} {l : List (List UInt8)} {t : List UInt8} (h : IsTextsC S w v n l) (hx : IsRow R w x (bys t)) (hxc : CapOk x) (hRS : ∀ k, R k → S k ∧ ¬ v.ownBlock = some k) (hg : w.heap.size = g) (hb : n + 1 ≤ 1000000000) :
    ∃ v' w', (Builtin.append_ #[40, 40] ty #[v, .slice (some ⟨g, 0, none⟩) 1 1]).run Tryz.prog (w.alloc (.cells #[x] 22)) = .ok v' w' ∧ IsTextsC (fun k => S k ∨ w.heap.size ≤ k) w' v' (n + 1) (l ++ [t]) ∧ Mod (fun k => v.ownBlock = some k) w w' ∧ ∀ k, v'.ownBlock = some k → v.ownBlock = some k ∨ w.heap.size ≤ k := by
  obtain ⟨i0, hi, hz0, hz1, hz2⟩ := info_parts info_text
  obtain ⟨vs, h1, h2⟩ := h
  have hm : Mod Go.Proofs.YtjilbnpehgigjaaGreat.nil w (w.alloc (.cells #[x] 22)) := (Mod.refl _ w).alloc _
  have hone : x.oneCell' = true := by obtain ⟨p, c, rfl, _⟩ := hx; rfl
  obtain ⟨v', w', hr, h3, h4⟩ := vec_append (P := Tryz.prog) 40 ty 22 i0 _ 1 24 Tryz.underlying40 hi hz0 hz1 hz2 rfl (by omega) (show IsVec (fun k => v.ownBlock = some k) _ _ _ _ _ _ from ⟨(h1.modNil hm).1, fun _ h => h⟩) (cellsOne w 22 x g hg) rfl (by intro u hu; rw [List.mem_singleton.1 hu]; exact hone) (by unfold maxLen; omega) (by omega)
  have hob : ∀ k, v.ownBlock = some k → k < w.heap.size := fun k hk => by
    rcases h1.1.2 with ⟨rfl, _⟩ | ⟨g', cap, cur, rfl, _, hh, _⟩
    · simp [Value.ownBlock] at hk
    · simp [Value.ownBlock] at hk
      subst hk
      exact heap_lt hh
  have hmw : Mod (fun k => v.ownBlock = some k) w w' := hm.ofNil.trans h4 (fun _ _ h => h)
  refine ⟨v', w', hr, ⟨_, h3.mono (fun k _ hk => hk.elim (fun h => .inl (h1.2 k h)) (fun h => .inr (Nat.le_trans hm.size h))), each2_snoc ⟨?_, hxc⟩ (each2_imp (fun a b r => ⟨?_, r.2⟩) h2)⟩, hmw, fun k ho => (h3.2 k ho).imp id (fun h => Nat.le_trans hm.size h)⟩
  · exact (hx.here.mod hmw (fun k _ hk ho => (hRS k hk.1).2 ho)).mono (fun k _ hk => ⟨.inl (hRS k hk.1).1, fun ho => by
      rcases h3.2 k ho with h' | h'
      · exact (hRS k hk.1).2 h'
      · have := hm.size; have := hk.2; omega⟩)
  · exact (r.1.here.mod hmw (fun k _ hk ho => hk.1.2 ho)).mono (fun k _ hk => ⟨.inl hk.1.1, fun ho => by
      rcases h3.2 k ho with h' | h'
      · exact hk.1.2 h'
      · have := hm.size; have := hk.2; omega⟩)
end Go.Proofs.YtjilbnpehgigjaaGreat

/- Package journal: Picture, Records. -/
namespace Go.Proofs.YtjilbnpehgigjaaGreat
open Go.RowKit
set_option maxHeartbeats 1000000 in
theorem jPicture (S : Nat → Prop) (jb tb db : Nat) (s : JS) (w : World) (hj : IsJ S w jb tb db s) (hl : s.pict.length ≤ 60000) :
    Calls Tryz.prog 15 #[.pointer (some ⟨jb, 0, none⟩)] w fun e w' => ∃ p c, e = .returned (.tuple #[.slice p s.pict.length c, .bool s.has]) ∧ IsVec (fun k => w.heap.size ≤ k) w' 5 1 (.slice p s.pict.length c) s.pict.length (bys s.pict) ∧ Mod nil w w' := by
  refine (?_ : ∀ Post : Ending → World → Prop, Hid (∀ e w', (∃ p c, e = .returned (.tuple #[.slice p s.pict.length c, .bool s.has]) ∧ IsVec (fun k => w.heap.size ≤ k) w' 5 1 (.slice p s.pict.length c) s.pict.length (bys s.pict) ∧ Mod nil w w') → Post e w') → Calls Tryz.prog 15 #[.pointer (some ⟨jb, 0, none⟩)] w Post) _ (Lib.hid (fun _ _ h => h))
  intro Post HPOST
  obtain ⟨pp, cp, pr, cr, h1, h2, h3⟩ := hj.ex
  have c5 := cell_of h1 5
  have c6 := cell_of h1 6
  have hjl := heap_lt h1
  simp only [List.getElem?_toArray, List.getElem?_cons_zero, List.getElem?_cons_succ] at c5 c6
  have HCL : Hid (∀ W, Mod nil w W → Calls Tryz.prog 36 #[.slice pp s.pict.length cp] W fun e w' => ∃ p c, e = .returned (.slice p s.pict.length c) ∧ Hid (IsVec (fun k => w.heap.size ≤ k) w' 5 1 (.slice p s.pict.length c) s.pict.length (bys s.pict)) ∧ Mod nil W w') := Lib.hid (fun W m => by
    refine (bytesClone _ _ _ W (h2.modNil m) (by omega)).mono ?_
    rintro e w' ⟨v, rfl, hv, hm⟩
    obtain ⟨p, c, rfl⟩ := hv.form
    exact ⟨p, c, rfl, Lib.hid (hv.mono (fun k _ h => Nat.le_trans m.size h)), hm⟩)
  obtain ⟨n, hn⟩ : ∃ n, s.pict.length = n := ⟨_, rfl⟩
  obtain ⟨ha, hha⟩ : ∃ ha, s.has = ha := ⟨_, rfl⟩
  rw [hn] at HCL HPOST c6
  rw [hha] at HPOST c5
  clear h1 h2 h3 hj hn hl hha
  go_enter Tryz.func15, Tryz.ntmps15
  go_wp2_with fail
  go_region_held3 (fun w' => w'.cell? ⟨jb, 5, none⟩ = some (.bool ha) ∧ w'.cell? ⟨jb, 6, none⟩ = some (.slice pp n cp)) (first | exact ⟨c5, c6⟩ | exact ⟨d5, d6⟩) (first
    | (go_at_call 36; refine (HCL.out _ ?_).mono ?_; (repeat (first | exact Mod.refl _ _ | refine Mod.drew ?_)); rintro e wq ⟨pq, cq, rfl, hvq, hmq⟩; have hmq' := (by (repeat (refine Mod.drew ?_)); exact Mod.refl nil w : Mod nil w _).thenNil hmq; have d5 := cell_kept c5 hmq' hjl (not_nil _); have d6 := cell_kept c6 hmq' hjl (not_nil _)))
  have HE := Lib.hid (HPOST.out _ _ ⟨pq, cq, rfl, hvq.out, hmq'⟩)
  clear hmq' hmq
  go_wp2_with fail
  exact HE.out
set_option maxRecDepth 100000 in
set_option maxHeartbeats 1000000 in
theorem jRecords (S : Nat → Prop) (jb tb db : Nat) (s : JS) (w : World) (hj : IsJ S w jb tb db s) (hl : ∀ r ∈ s.recs, r.length ≤ 60000) (hn : s.recs.length ≤ 100000) :
    Calls Tryz.prog 13 #[.pointer (some ⟨jb, 0, none⟩)] w fun e w' => ∃ v, e = .returned v ∧ IsTextsC (fun k => w.heap.size ≤ k) w' v s.recs.length s.recs ∧ Mod nil w w' := by
  refine (?_ : ∀ Post : Ending → World → Prop, Hid (∀ e w', (∃ v, e = .returned v ∧ IsTextsC (fun k => w.heap.size ≤ k) w' v s.recs.length s.recs ∧ Mod nil w w') → Post e w') → Calls Tryz.prog 13 #[.pointer (some ⟨jb, 0, none⟩)] w Post) _ (Lib.hid (fun _ _ h => h))
  intro Post HPOST
  obtain ⟨pp, cp, pr, cr, h1, h2, h3⟩ := hj.ex
  have c7 := cell_of h1 7
  simp only [List.getElem?_toArray, List.getElem?_cons_zero, List.getElem?_cons_succ] at c7
  obtain ⟨l, hrl⟩ : ∃ l, s.recs = l := ⟨_, rfl⟩
  obtain ⟨n, hnn⟩ : ∃ n, l.length = n := ⟨_, rfl⟩
  rw [hrl] at HPOST c7 h3 hl hn
  rw [hnn] at HPOST c7 h3 hn
  have HR := Lib.hid h3
  have HL := Lib.hid hl
  have HN := Lib.hid hnn
  obtain ⟨B, hB⟩ : ∃ B, w.heap.size = B := ⟨_, rfl⟩
  rw [hB] at HPOST
  have HB := Lib.hid hB
  clear h1 h2 h3 hj hl hrl hnn hB
  go_enter Tryz.func13, Tryz.ntmps13
  go_wp2_with fail
  go_loopw [3, 11] (fun v3 v11 wr => ∃ (i : Nat) (q : Option Addr) (c : Nat), i ≤ n ∧ v11 = .int .i64 i ∧ v3 = .slice q i c ∧ Hid (IsTextsC (fun k => B ≤ k) wr (.slice q i c) i (l.take i)) ∧ Hid (Mod nil w wr)) (fun _ v _ => n - (intOf v).toNat)
  case atStart => exact ⟨0, none, 0, by omega, rfl, rfl, Lib.hid (IsTextsC.nil _ _), Lib.hid (Mod.refl _ _)⟩
  case round =>
    obtain ⟨i, q, c, hi, rfl, rfl, HV, HM⟩ := hrel
    by_cases hlt : i < n
    · obtain ⟨g, x, rfl, hg, hx, hrow⟩ := (HR.out.modNil HM.out).at i hlt
      obtain ⟨t, ht⟩ : ∃ t, l.getD i [] = t := ⟨_, rfl⟩
      rw [ht] at hrow
      have htl : t.length ≤ 60000 := by
        rw [← ht, List.getD_eq_getElem?_getD, List.getElem?_eq_getElem (by rw [HN.out]; exact hlt)]
        exact HL.out _ (List.getElem_mem _)
      have HROW := Lib.hid hrow
      have HT : Hid (l.take (i + 1) = l.take i ++ [t]) := Lib.hid (by
        rw [← ht, List.take_succ_eq_append_getElem (by rw [HN.out]; exact hlt), List.getD_eq_getElem?_getD, List.getElem?_eq_getElem (by rw [HN.out]; exact hlt)]; rfl)
      clear hrow ht
      go_wp2_with fail
      refine (bytesClone _ _ _ wr HROW.out (by omega)).mono ?_
      rintro e w1 ⟨v1, rfl, hv1, hm1⟩
      obtain ⟨p1, c1, rfl⟩ := hv1.form
      have HV1 := Lib.hid hv1
      have HM1 := Lib.hid hm1
      have hs1 := hm1.size
      have hs2 := HM.out.size
      obtain ⟨g2, hg2⟩ : ∃ g2, w1.heap.size = g2 := ⟨_, rfl⟩
      have hown : ∀ k, wr.heap.size ≤ k → B ≤ k ∧ ¬ (Value.slice q i c).ownBlock = some k := fun k hk => ⟨by have := HB.out; omega, fun ho => by have := (HV.out.own ho).2; omega⟩
      obtain ⟨v8, w8, hrun8, hv8, hm8, ho8⟩ := textsC_append (g := g2) 40 (HV.out.modNil HM1.out) HV1.out.row HV1.out.capOk hown hg2 (by omega)
      obtain ⟨p8, c8, rfl⟩ := hv8.form
      have HRUN := Lib.hid hrun8
      have HV8 : Hid (IsTextsC (fun k => B ≤ k) w8 (.slice p8 (i + 1) c8) (i + 1) (l.take (i + 1))) := Lib.hid (by
        rw [HT.out]
        exact hv8.mono (fun k _ h => h.elim id (fun h => by have := HB.out; omega)))
      have HM8 : Hid (Mod nil w w8) := Lib.hid ((HM.out.thenNil HM1.out).new hm8 (fun k ho => by have := (HV.out.own ho).1; have := HB.out; omega))
      clear hv1 hm1 hrun8 hv8 hm8 ho8 hown hs1 hs2
      go_wp2_with (first | (at_builtin; refine wpList_append_run rfl _ _ _ _ rfl rfl rfl HRUN.out ?_))
      exact ⟨⟨i + 1, p8, c8, by omega, by go_num, rfl, HV8, HM8⟩, by simp [intOf]; omega⟩
    · obtain rfl : i = n := by omega
      have HEND : Hid (Post (.returned (.slice q i c)) wr) := Lib.hid (HPOST.out _ _ ⟨_, rfl, by have h := HV.out; rw [List.take_of_length_le (by rw [HN.out]; exact Nat.le_refl _)] at h; exact h, HM.out⟩)
      clear HV HM
      go_wp2_with fail
      exact HEND.out
end Go.Proofs.YtjilbnpehgigjaaGreat

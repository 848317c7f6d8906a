/- cfllaw8.JournalSpells: a record whose body spells frames, torn anywhere. (Printed by wip/tools/gen_lawspells.py.) -/
import Derived.Test.YtjilbnpehgigjaaGreatSixPut
import Derived.Test.YtjilbnpehgigjaaGreatJSpell
import Derived.Test.YtjilbnpehgigjaaGreatRdB
namespace Go.Proofs.YtjilbnpehgigjaaGreat
open Go.RowKit
theorem bysZ (n : Nat) : bys (List.replicate n 0) = List.replicate n (.int .u8 0) := by simp [bys]
/-- a builtin 'append' whose run is known, at an operation with a guard that holds -/
theorem wpList_append_run_at {P : Program} {ops : Array Oper} {rest : List Oper} {o : Oper} {a : Act} {Q : Exit → Act → World → Prop} {w w' : World} {v xv v' : Value} (hw : Region.wanted o (yielded ops a.tmps) = true) (s x : Operand) (t u : TypeId)
    (ho : o.op = .call { callee := .builtin .append, args := #[s, x], argTypes := #[t, u] }) (hs : a.eval s = v) (hx : a.eval x = xv)
    (hrun : (Builtin.append_ #[t, u] o.type #[v, xv]).run P w = .ok v' w') (h : wpList P ops Q rest (a.put o.dst v') w') : wpList P ops Q (o :: rest) a w :=
  wpList_step fun K hK => by
    rw [if_pos hw]
    unfold Oper.wp execOp
    simp only [ho, resolve, invoke, builtin, Sem.run_bind, Sem.run_pure, Result.andThen_ok, List.map_toArray, List.map_cons, List.map_nil, hs, hx, hrun]
    exact hK _ _ h
theorem texts_one {R : Nat → Prop} {w : World} {x : Value} {t : List UInt8} {g : Nat} (hx : IsRow R w x (bys t)) (hg : w.heap.size = g) : IsTexts (fun k => R k ∨ k = g) (w.alloc (.cells #[x] 22)) (.slice (some ⟨g, 0, Option.none⟩) 1 1) 1 [t] := by
  subst hg
  refine ⟨[x], ⟨⟨rfl, .inr ⟨w.heap.size, 1, #[x], rfl, Nat.zero_le _, heap_alloc_new _ _, Nat.le_refl _, by unfold maxLen; omega, rfl, rfl⟩⟩, fun k hk => by simp [Value.ownBlock] at hk; exact .inr hk.symm⟩, ?_, trivial⟩
  refine (hx.here.modNil ((Mod.refl _ _).alloc _)).mono (fun k _ h => ⟨.inl h.1, fun e => ?_⟩)
  simp [Value.ownBlock] at e
  have := h.2
  omega
def spellBad (nb : Nat) (pad fuse : Int) (nk : Nat) : Prop := 500 < nb ∨ pad < 0 ∨ 130 < pad ∨ fuse < 0 ∨ 20 < fuse ∨ 100 < nk
set_option maxRecDepth 100000 in
theorem lawSpells_bad (pb pk : Option Addr) (nb cb nk ck : Nat) (kind gen seq pad fuse : Int) (w : World) (h : spellBad nb pad fuse nk) :
    Calls Tryz.prog 3 #[.slice pb nb cb, .int .i64 kind, .int .i64 gen, .int .i64 seq, .int .i64 pad, .int .i64 fuse, .slice pk nk ck] w fun e w' => e = .returned (.bool true) ∧ Mod nil w w' := by
  have h' : 500 < (nb : Int) ∨ (nb ≤ 500 ∧ pad < 0) ∨ (nb ≤ 500 ∧ 0 ≤ pad ∧ 130 < pad) ∨ (nb ≤ 500 ∧ 0 ≤ pad ∧ pad ≤ 130 ∧ fuse < 0) ∨ (nb ≤ 500 ∧ 0 ≤ pad ∧ pad ≤ 130 ∧ 0 ≤ fuse ∧ 20 < fuse) ∨ (nb ≤ 500 ∧ 0 ≤ pad ∧ pad ≤ 130 ∧ 0 ≤ fuse ∧ fuse ≤ 20 ∧ 100 < (nk : Int)) := by unfold spellBad at h; omega
  clear h
  rcases h' with h1 | ⟨h1, h2⟩ | ⟨h1, h2, h3⟩ | ⟨h1, h2, h3, h4⟩ | ⟨h1, h2, h3, h4, h5⟩ | ⟨h1, h2, h3, h4, h5, h6⟩
  all_goals
    go_enter Tryz.func3, Tryz.ntmps3
    go_wp2_with fail
    refine (jFirst w).mono ?_
    rintro e w1 ⟨rfl, hm1⟩
    go_wp2_with fail
    refine (jFirst w1).mono ?_
    rintro e w2 ⟨rfl, hm2⟩
    go_wp2_with fail
    go_ret
    exact ⟨rfl, hm1.thenNil hm2⟩
def spellOf (kind gen seq : Int) (b : List UInt8) : List UInt8 × Int := if 0 ≤ kind ∧ kind ≤ 255 ∧ 0 ≤ gen ∧ gen ≤ 4294967295 ∧ 0 ≤ seq ∧ seq ≤ 4294967295 then (putF kind.toNat gen.toNat seq.toNat b, 0) else ([], 1)
theorem spellOf_length (kind gen seq : Int) (b : List UInt8) (h : b.length ≤ 500) : (spellOf kind gen seq b).1.length ≤ 576 := by
  unfold spellOf
  split
  · simp only [putF_length]; unfold sectorsF; omega
  · simp
theorem spellPut (kind gen seq : Int) (nb cb : Nat) (pb : Option Addr) (T : Nat → Prop) (body : List UInt8) (w : World) (hrow : IsRow T w (.slice pb nb cb) (bys body)) (hT : ∀ k, T k → k < w.heap.size) (h4 : nb ≤ 500) :
    Calls Tryz.prog 10 #[.agg #[.int .i64 kind, .int .i64 gen, .int .i64 seq, .slice pb nb cb]] w fun e w' => ∃ p q, e = .returned (.tuple #[.slice p (spellOf kind gen seq body).1.length q, .int .i64 (spellOf kind gen seq body).2]) ∧ IsVec (fun k => w.heap.size ≤ k) w' 5 1 (.slice p (spellOf kind gen seq body).1.length q) (spellOf kind gen seq body).1.length (bys (spellOf kind gen seq body).1) ∧ Mod nil w w' := by
  have hbl : body.length = nb := by
    obtain ⟨_, _, h, _⟩ := hrow
    simp only [Value.slice.injEq, bys_length] at h
    exact h.2.1.symm
  by_cases hr : 0 ≤ kind ∧ kind ≤ 255 ∧ 0 ≤ gen ∧ gen ≤ 4294967295 ∧ 0 ≤ seq ∧ seq ≤ 4294967295
  · obtain ⟨k1, k2, g1, g2, s1, s2⟩ := id hr
    have e : spellOf kind gen seq body = (putF kind.toNat gen.toNat seq.toNat body, 0) := if_pos hr
    rw [e]
    obtain ⟨k, rfl⟩ := Int.eq_ofNat_of_zero_le k1
    obtain ⟨g, rfl⟩ := Int.eq_ofNat_of_zero_le g1
    obtain ⟨s, rfl⟩ := Int.eq_ofNat_of_zero_le s1
    refine (sixPut k g s nb cb pb T body w hrow hT (by omega) (by omega) (by omega) (by omega)).mono ?_
    rintro e w' ⟨p, q, rfl, hv, hm⟩
    simp only [Int.toNat_natCast, putF_length, hbl]
    exact ⟨p, q, rfl, hv, hm⟩
  · have e : spellOf kind gen seq body = ([], 1) := if_neg hr
    rw [e]
    refine (sixPutBad nb cb pb kind gen seq w (by omega) (by omega)).mono ?_
    rintro e w' ⟨rfl, hm⟩
    exact ⟨none, 0, rfl, IsVec.nil _ _ _ _, hm⟩
set_option maxRecDepth 100000 in
set_option maxHeartbeats 8000000 in
theorem lawSpells (pb pk : Option Addr) (nb cb nk ck pad fuse : Nat) (kind gen seq : Int) (body : List UInt8) (keep : List Bool) (w : World) (h1 : nb ≤ 500) (h2 : pad ≤ 130) (h3 : fuse ≤ 20) (h4 : nk ≤ 100) (hrow : IsRow (· < w.heap.size) w (.slice pb nb cb) (bys body)) (hkeep : IsRow (· < w.heap.size) w (.slice pk nk ck) (keep.map Value.bool)) :
    Calls Tryz.prog 3 #[.slice pb nb cb, .int .i64 kind, .int .i64 gen, .int .i64 seq, .int .i64 (pad : Nat), .int .i64 (fuse : Nat), .slice pk nk ck] w fun e w' => e = .returned (.bool true) ∧ Mod nil w w' := by
  refine (?_ : ∀ Post : Ending → World → Prop, Hid (∀ e w', (e = .returned (.bool true) ∧ Mod nil w w') → Post e w') → Calls Tryz.prog 3 #[.slice pb nb cb, .int .i64 kind, .int .i64 gen, .int .i64 seq, .int .i64 (pad : Nat), .int .i64 (fuse : Nat), .slice pk nk ck] w Post) _ (Lib.hid (fun _ _ h => h))
  intro Post HPOST
  have HROW := Lib.hid hrow
  have HKEEP := Lib.hid hkeep
  clear hrow hkeep
  go_enter Tryz.func3, Tryz.ntmps3
  go_wp2_with fail
  refine (jFirst w).mono ?_
  rintro e w1 ⟨rfl, hm1⟩
  have HM1 := Lib.hid hm1
  clear hm1
  go_wp2_with fail
  refine (shaNewTable w1).mono ?_
  rintro e w2 ⟨tb, rfl, ht2, htb, hm2⟩
  have HT2 := Lib.hid ht2
  have HM2 := Lib.hid (HM1.out.thenNil hm2)
  have htb0 : w.heap.size ≤ tb := Nat.le_trans HM1.out.size htb
  clear ht2 htb hm2
  go_wp2_with fail
  refine (diskNew 100 w2 (by omega) (by omega)).mono ?_
  rintro e w3 ⟨db, bl, bm, C, rfl, hd3, hfoot, hm3⟩
  obtain ⟨d, hd⟩ : ∃ d, freshDisk 100 = d := ⟨_, rfl⟩
  have HG : Hid (Good d 100 ∧ d.pend = []) := Lib.hid (by rw [← hd]; exact ⟨freshDisk_good 100, rfl⟩)
  have HP : Hid (PL d.lasts 50 (JS.fresh d)) := Lib.hid (by rw [← hd]; exact PL.fresh 100 50 (by decide) (by omega))
  rw [hd] at hd3
  have HDT : Hid (IsDT (fun k => w2.heap.size ≤ k) w3 tb db bl bm d) := Lib.hid (IsDT.of hd3 (HT2.out.mod hm3 (not_nil _)) (fun k hk _ => ⟨hfoot k hk, by have := hfoot k hk; have := HT2.out.lt; omega⟩))
  have HM3 := Lib.hid (HM2.out.thenNil hm3)
  have h23 := hm3.size
  clear hd hd3 hfoot hm3
  go_wp2_with fail
  refine (jOpen _ tb db bl bm d w3 HDT.out).mono ?_
  rintro e w4 ⟨jb, rfl, hjb, hj4, hm4⟩
  rw [PL.opens HG.out.1 (show 100 / 2 = 50 from rfl) (by rw [curs_pend HG.out.2]; exact HP.out)] at hj4
  have HJ4 : Hid (IsJD (fun k => w2.heap.size ≤ k ∧ k < w4.heap.size) w4 jb tb db bl bm (JS.fresh d) d) := Lib.hid (hj4.mono (fun k hk h => ⟨h.elim id (fun h => Nat.le_trans h23 h), hk⟩))
  have HM4 := Lib.hid (HM3.out.new hm4 (fun k h => by rw [h]; omega))
  have h34 := hm4.size
  clear hj4 hm4 hjb
  have kc := Lib.run_convert_bytes_const (P := Tryz.prog) w4 22 5 #[.int .u8 111, .int .u8 110, .int .u8 101] 3 3 Tryz.underlying22 Tryz.underlying5
  go_wp2_with fail
  obtain ⟨g5, hg5⟩ : ∃ b, w4.heap.size = b := ⟨_, rfl⟩
  (try rw [hg5])
  generalize hw5 : World.alloc w4 _ = w5
  have hm5 : Mod nil w4 w5 := by rw [← hw5]; exact (Mod.refl _ _).alloc _
  have hr5 : IsRow (fun k => k = g5) w5 (.slice (some ⟨g5, 0, Option.none⟩) 3 3) (bys [111, 110, 101]) := by
    refine ⟨_, _, rfl, fun i hi => ⟨g5, 0, rfl, rfl, ?_, ?_⟩⟩
    · rw [← hw5, World.size_alloc]; omega
    · rw [← hw5, ← hg5, World.cell?_alloc_mark]
      have : i = 0 ∨ i = 1 ∨ i = 2 := by simp [bys] at hi; omega
      rcases this with rfl | rfl | rfl <;> rfl
  obtain ⟨d6, hap6, hgd6, hp6, hpl6⟩ := PL.sure HG.out.1 HG.out.2 (show 100 / 2 = 50 from rfl) HP.out [111, 110, 101] (by simp) (by simp [JS.fresh, sectorsF])
  have h45 := hm5.size
  have htb4 := HJ4.out.tab.lt
  refine (jAppend _ (fun k => k = g5) jb tb db bl bm (JS.fresh d) d (some ⟨g5, 0, Option.none⟩) 3 3 [111, 110, 101] w5 (HJ4.out.modNil hm5) (by rw [HG.out.1.len]; exact HP.out.lim) hr5 (fun k hk => by subst hk; exact ⟨by rw [← hw5, World.size_alloc]; omega, by omega, by omega⟩) (by omega)).mono ?_
  rw [hap6]
  rintro e w6 ⟨rfl, hj6, hm6⟩
  obtain ⟨s6, hs6⟩ : ∃ s, (JS.fresh d).grow [111, 110, 101] = s := ⟨_, rfl⟩
  rw [hs6] at hj6 hpl6
  have HS6 : Hid (s6.recs = [[111, 110, 101]] ∧ s6.at_ = 1 ∧ s6.has = false) := Lib.hid (by rw [← hs6]; exact ⟨rfl, rfl, rfl⟩)
  have HD6 : Hid (Good d6 100 ∧ d6.pend = [] ∧ PL d6.lasts 50 s6) := Lib.hid ⟨hgd6, hp6, hpl6⟩
  have HJ6 : Hid (IsJD (fun k => w2.heap.size ≤ k ∧ k < w6.heap.size) w6 jb tb db bl bm s6 d6) := Lib.hid (hj6.mono (fun k hk h => ⟨h.elim (fun h => h.1) (fun h => by omega), hk⟩))
  have h56 := hm6.size
  have hm46 : Mod nil w w6 := (HM4.out.thenNil hm5).new hm6 (fun k h => by have := HM2.out.size; rcases h with h | h <;> omega)
  have HM6 := Lib.hid hm46
  obtain ⟨G2, hG2⟩ : ∃ b, w2.heap.size = b := ⟨_, rfl⟩
  rw [hG2] at HJ6
  have HG2 : Hid (w.heap.size ≤ G2 ∧ tb < G2) := Lib.hid ⟨by have := HM2.out.size; omega, by have := HT2.out.lt; omega⟩
  clear hj6 hm6 hs6 hap6 hgd6 hp6 hpl6 hm5 hr5 hw5 kc hm46 hg5 HDT HP HG HJ4 HM3 HM4
  have HBL : Hid (body.length = nb) := Lib.hid (by
    obtain ⟨_, _, h, _⟩ := HROW.out
    simp only [Value.slice.injEq, bys_length] at h
    exact h.2.1.symm)
  have hspl := spellOf_length kind gen seq body (by rw [HBL.out]; exact h1)
  have HSP : Hid ((spellOf kind gen seq body).2 = 0 ∨ (spellOf kind gen seq body).1 = []) := Lib.hid (by unfold spellOf; split; exact .inl rfl; exact .inr rfl)
  have HPUT : Hid (∀ W, Mod nil w W → Calls Tryz.prog 10 #[.agg #[.int .i64 kind, .int .i64 gen, .int .i64 seq, .slice pb nb cb]] W fun e w' => ∃ p q, e = .returned (.tuple #[.slice p (spellOf kind gen seq body).1.length q, .int .i64 (spellOf kind gen seq body).2]) ∧ IsVec (fun k => W.heap.size ≤ k) w' 5 1 (.slice p (spellOf kind gen seq body).1.length q) (spellOf kind gen seq body).1.length (bys (spellOf kind gen seq body).1) ∧ Mod nil W w') := Lib.hid (fun W m => spellPut kind gen seq nb cb pb (· < w.heap.size) body W (HROW.out.modNil m) (fun k h => Nat.lt_of_lt_of_le h m.size) h1)
  obtain ⟨⟨SB, ER⟩, hso⟩ : ∃ x, spellOf kind gen seq body = x := ⟨_, rfl⟩
  rw [hso] at HPUT hspl HSP
  simp only at HPUT hspl HSP
  obtain ⟨SN, hSN⟩ : ∃ n, SB.length = n := ⟨_, rfl⟩
  rw [hSN] at HPUT hspl
  have HSN := Lib.hid hSN
  clear hso hSN
  go_wp2_with fail
  refine (HPUT.out w6 HM6.out).mono ?_
  rintro e w7 ⟨p7, c7, rfl, hv7, hm7⟩
  have HV7 := Lib.hid hv7
  have HM7 := Lib.hid hm7
  clear hv7 hm7
  obtain ⟨g7, hg7⟩ : ∃ b, w7.heap.size = b := ⟨_, rfl⟩
  obtain ⟨w8, hw8⟩ : ∃ W, w7.alloc (.cells (bys (List.replicate pad 0)).toArray 5) = W := ⟨_, rfl⟩
  have hb8 : w8.heap[g7]? = some (.cells (bys (List.replicate pad 0)).toArray 5 (0, 0)) := by rw [← hw8, ← hg7]; exact heap_alloc_new _ _
  have hv8 : IsVec (· = g7) w8 5 1 (.slice (some ⟨g7, 0, Option.none⟩) pad pad) pad (bys (List.replicate pad 0)) := ⟨⟨by simp [bys_length], .inr ⟨g7, pad, _, rfl, Nat.zero_le _, hb8, Nat.le_refl _, by unfold maxLen; omega, by simp [bys_length], by rw [Nat.mul_one]; exact List.take_of_length_le (by simp [bys_length])⟩⟩, fun k hk => by simp [Value.ownBlock] at hk; omega⟩
  have hmk : (Instr.makeSlice 22 (.int .i64 (pad : Nat)) (.int .i64 (pad : Nat))).run Tryz.prog w7 = .ok (.slice (some ⟨g7, 0, Option.none⟩) pad pad) w8 := by
    obtain ⟨i0, hi0, hz0, hz1, hz2⟩ := info_parts info_u8
    rw [← hw8, ← hg7, bysZ]
    exact run_make_one 22 5 i0 _ 1 Tryz.underlying22 hi0 hz0 hz1 hz2 rfl pad (by omega) (by unfold maxLen; omega) w7
  have hm8 : Mod nil w7 w8 := by rw [← hw8]; exact (Mod.refl _ _).alloc _
  obtain ⟨p9, c9, w9, hrun9, hv9, hm9⟩ := six_append (S := (· = g7)) 22 (l := List.replicate pad 0) (m := SB) (n := pad) (k := SN) (by simp) HSN.out hv8 (HV7.out.row.modNil hm8) (by omega)
  obtain ⟨n9, hn9⟩ : ∃ n, pad + SN = n := ⟨_, rfl⟩
  rw [hn9] at hrun9 hv9
  have hl9 : (List.replicate pad (0 : UInt8) ++ SB).length = n9 := by rw [List.length_append, HSN.out]; simpa using hn9
  have hm79 : Mod nil w7 w9 := hm8.new hm9 (fun k h => by rw [h, ← hg7]; exact Nat.le_refl _)
  obtain ⟨p10, c10, w10, hrun10, hv10, hm10⟩ := six_append 22 (n := n9) (k := SN) hl9 HSN.out hv9 (HV7.out.row.modNil hm79) (by omega)
  obtain ⟨n10, hn10⟩ : ∃ n, n9 + SN = n := ⟨_, rfl⟩
  rw [hn10] at hrun10 hv10
  obtain ⟨L, hL⟩ : ∃ L, List.replicate pad (0 : UInt8) ++ SB ++ SB = L := ⟨_, rfl⟩
  have HLL : Hid (L.length = n10) := Lib.hid (by rw [← hL, List.length_append, hl9, HSN.out]; exact hn10)
  have h10b : n10 ≤ 2000 := by omega
  rw [hL] at hv10
  have h67 := HM7.out.size
  have hs89 := hm8.size
  have hs99 := hm9.size
  have HV10 : Hid (IsVec (fun k => w6.heap.size ≤ k ∧ k < w10.heap.size) w10 5 1 (.slice p10 n10 c10) n10 (bys L)) := Lib.hid (hv10.mono (fun k hk h => ⟨by rcases h with (h | h) | h <;> omega, hk⟩))
  have HM10 : Hid (Mod nil w6 w10) := Lib.hid ((HM7.out.thenNil hm79).new hm10 (fun k h => by rcases h with h | h <;> omega))
  have hsz10 := HM10.out.size
  have HR9 := Lib.hid hrun9
  have HR10 := Lib.hid hrun10
  clear hw8 hb8 hv8 hrun9 hv9 hm9 hn9 hl9 hm79 hrun10 hv10 hm10 hn10 hL h67 hs89 hs99 hm8 hg7
  go_wp2_with (first | (at_builtin; refine wpList_append_run rfl _ _ _ _ rfl rfl rfl HR9.out ?_) | (at_builtin; refine wpList_append_run rfl _ _ _ _ rfl rfl rfl HR10.out ?_))
  have hcap : n10 ≤ c10 := by
    obtain ⟨p, c, h, h1, _⟩ := vecCap HV10.out
    simp only [Value.slice.injEq] at h
    omega
  refine (jdFuse _ jb tb db bl bm s6 d6 (fuse : Nat) w10 (HJ6.out.modNil HM10.out) (by omega)).mono ?_
  rintro e w11 ⟨rfl, hj11, hm11⟩
  obtain ⟨f, hf⟩ : ∃ f : Int, max ((fuse : Nat) : Int) (-1) = f := ⟨_, rfl⟩
  rw [hf] at hj11
  have HM11 : Hid (Mod nil w w11) := Lib.hid ((HM6.out.thenNil HM10.out).new hm11 (fun k h => by have := HG2.out; omega))
  have HV11 : Hid (IsVec (fun k => w6.heap.size ≤ k ∧ k < w10.heap.size) w11 5 1 (.slice p10 n10 c10) n10 (bys L)) := Lib.hid (HV10.out.mod hm11 (fun k _ h h2 => by omega))
  obtain ⟨⟨sa, da, ca⟩, hA⟩ : ∃ x, s6.appends { d6 with fuse := f } L = x := ⟨_, rfl⟩
  have hsp := PL.spell HD6.out.1 HD6.out.2.1 (show 100 / 2 = 50 from rfl) HD6.out.2.2 f L keep
  rw [hA] at hsp
  simp only at hsp
  have hs11 := hm11.size
  have hG6 := HG2.out
  have hcall := jAppend _ (fun k => w6.heap.size ≤ k ∧ k < w10.heap.size) jb tb db bl bm s6 { d6 with fuse := f } p10 n10 c10 L w11 hj11 (by show s6.Lim (d6.lasts.length / 2); rw [HD6.out.1.len]; exact HD6.out.2.2.lim) HV11.out.row (fun k hk => ⟨by omega, fun h => by omega, fun h => by have := htb4; omega⟩) hcap
  rw [hA] at hcall
  simp only at hcall
  have HC := Lib.hid hcall
  have HSPL := Lib.hid hsp
  clear hsp hcall hj11 hm11 hf hA hG6
  go_wp2_with fail
  refine HC.out.mono ?_
  rintro e w12 ⟨rfl, hj12, hm12⟩
  have HD12 := Lib.hid hj12.dt
  have HM12 : Hid (Mod nil w w12) := Lib.hid (HM11.out.new hm12 (fun k h => by have := HG2.out; omega))
  have HV12 : Hid (IsVec (fun k => w6.heap.size ≤ k ∧ k < w10.heap.size) w12 5 1 (.slice p10 n10 c10) n10 (bys L)) := Lib.hid (HV11.out.mod hm12 (fun k _ h h2 => by have := HG2.out; omega))
  have hs12 := hm12.size
  have HKL : Hid (keep.length = nk) := Lib.hid (by
    obtain ⟨_, _, h, _⟩ := HKEEP.out
    simp only [Value.slice.injEq, List.length_map] at h
    exact h.2.1.symm)
  clear hj12 hm12 HC
  go_wp2_with fail
  refine (jdCrash _ (· < w.heap.size) tb db bl bm da _ keep w12 HD12.out (HKEEP.out.modNil HM12.out) (fun k hk h => by have := HG2.out; have := HM11.out.size; omega) (by rw [HKL.out]; omega)).mono ?_
  rintro e w13 ⟨rfl, hd13, hm13⟩
  obtain ⟨dc, hdc⟩ : ∃ x, da.crash keep = x := ⟨_, rfl⟩
  have hsp := HSPL.out
  rw [hdc] at hsp hd13
  have HGC : Hid (Good dc 100 ∧ dc.pend = []) := Lib.hid ⟨hsp.1, hsp.2.1⟩
  obtain ⟨s8, hpl8, hs8⟩ : ∃ s8, PL dc.lasts 50 s8 ∧ ((s8 = s6 ∧ ca ≠ 0) ∨ s8 = s6.grow L) := by
    rcases hsp.2.2 with h | h
    · exact ⟨s6, h.1, .inl ⟨rfl, h.2⟩⟩
    · exact ⟨_, h.1, .inr rfl⟩
  have HPL8 := Lib.hid hpl8
  have HS8 := Lib.hid hs8
  have HD13 := Lib.hid hd13
  have HM13 : Hid (Mod nil w w13) := Lib.hid (HM12.out.new hm13 (fun k h => by have := HG2.out; have := HM11.out.size; omega))
  have HV13 : Hid (IsVec (fun k => w6.heap.size ≤ k ∧ k < w10.heap.size) w13 5 1 (.slice p10 n10 c10) n10 (bys L)) := Lib.hid (HV12.out.mod hm13 (fun k _ h h2 => by have := HG2.out; omega))
  have hs13 := hm13.size
  clear hsp hdc hpl8 hs8 hd13 hm13 HSPL
  go_wp2_with fail
  refine (jOpen _ tb db bl bm dc w13 HD13.out).mono ?_
  rintro e w14 ⟨jb2, rfl, hjb2, hj14, hm14⟩
  rw [PL.opens HGC.out.1 (show 100 / 2 = 50 from rfl) (by rw [curs_pend HGC.out.2]; exact HPL8.out)] at hj14
  have HJ14 : Hid (IsJD (fun k => G2 ≤ k ∧ (k < w6.heap.size ∨ w11.heap.size ≤ k) ∧ k < w14.heap.size) w14 jb2 tb db bl bm s8 dc) := Lib.hid (hj14.mono (fun k hk h => ⟨by have := HG2.out; have := HM11.out.size; omega, by omega, hk⟩))
  have HM14 : Hid (Mod nil w w14) := Lib.hid (HM13.out.new hm14 (fun k h => by omega))
  have HV14 : Hid (IsVec (fun k => w6.heap.size ≤ k ∧ k < w10.heap.size) w14 5 1 (.slice p10 n10 c10) n10 (bys L)) := Lib.hid (HV13.out.mod hm14 (fun k _ h h2 => by omega))
  have hs14 := hm14.size
  clear hj14 hm14 hjb2 HD12 HD13 HJ6 HV10 HV11 HV12 HV13
  have kc := Lib.run_convert_bytes_const (P := Tryz.prog) w14 22 5 #[.int .u8 111, .int .u8 110, .int .u8 101] 3 3 Tryz.underlying22 Tryz.underlying5
  go_wp2_with fail
  obtain ⟨g15, hg15⟩ : ∃ b, w14.heap.size = b := ⟨_, rfl⟩
  (try rw [hg15])
  generalize hwa : World.alloc w14 _ = wa
  have hra : IsRow (fun k => k = g15) wa (.slice (some ⟨g15, 0, Option.none⟩) 3 3) (bys [111, 110, 101]) := by
    refine ⟨_, _, rfl, fun i hi => ⟨g15, 0, rfl, rfl, ?_, ?_⟩⟩
    · rw [← hwa, World.size_alloc]; omega
    · rw [← hwa, ← hg15, World.cell?_alloc_mark]
      have : i = 0 ∨ i = 1 ∨ i = 2 := by simp [bys] at hi; omega
      rcases this with rfl | rfl | rfl <;> rfl
  have hga : wa.heap.size = g15 + 1 := by rw [← hwa, World.size_alloc, hg15]
  have hma : Mod nil w14 wa := by rw [← hwa]; exact (Mod.refl _ _).alloc _
  have hw15 := texts_one hra hga
  generalize hwb : World.alloc wa _ = w15
  rw [hwb] at hw15
  have hs152 : g15 + 2 ≤ w15.heap.size := by rw [← hwb, World.size_alloc, hga]; omega
  have hm15 : Mod nil w14 w15 := by rw [← hwb]; exact hma.alloc _
  have HJ15 := Lib.hid (HJ14.out.modNil hm15)
  have HM15 := Lib.hid (HM14.out.thenNil hm15)
  have HV15 := Lib.hid (HV14.out.modNil hm15)
  have HW15 : Hid (IsTexts (fun k => (w6.heap.size ≤ k ∧ k < w10.heap.size) ∨ w14.heap.size ≤ k) w15 (.slice (some ⟨g15 + 1, 0, Option.none⟩) 1 1) 1 [[111, 110, 101]]) := Lib.hid (hw15.mono (fun k _ h => by omega))
  have hs15 := hm15.size
  have hs615 : w6.heap.size ≤ w10.heap.size ∧ w10.heap.size ≤ w14.heap.size := by omega
  obtain ⟨n8, hn8⟩ : ∃ n, s8.recs.length = n := ⟨_, rfl⟩
  have hcs : (n8 = 1 ∧ s8.recs = [[111, 110, 101]] ∧ (ca == 0) = false ∧ s8.at_ ≤ 40) ∨ (n8 = 2 ∧ s8.recs = [[111, 110, 101]] ++ [L] ∧ s8.at_ ≤ 40) := by
    rcases HS8.out with ⟨rfl, h⟩ | rfl
    · refine .inl ⟨by rw [← hn8, HS6.out.1]; rfl, HS6.out.1, by simpa using h, by rw [HS6.out.2.1]; omega⟩
    · refine .inr ⟨by rw [← hn8]; unfold JS.grow; rw [HS6.out.1]; rfl, by unfold JS.grow; rw [HS6.out.1], ?_⟩
      show s6.at_ + sectorsF L.length ≤ 40
      rw [HS6.out.2.1, HLL.out]
      unfold sectorsF
      omega
  have hg15l : w14.heap.size ≤ g15 ∧ g15 ≤ w14.heap.size := by omega
  clear hwa hra hga hma hw15 hwb hm15 kc hg15
  refine (jdRecords HJ15.out (fun r hr => HPL8.out.bod r hr) (by rw [hn8]; omega)).mono ?_
  rw [hn8]
  rintro e w16 ⟨p16, c16, rfl, hr16, hm16⟩
  have HR16 := Lib.hid hr16
  have HJ16 := Lib.hid (HJ15.out.modNil hm16)
  have HM16 := Lib.hid (HM15.out.thenNil hm16)
  have HV16 := Lib.hid (HV15.out.modNil hm16)
  have HW16 := Lib.hid (HW15.out.modNil hm16)
  have HN8 := Lib.hid hn8
  have hs16 := hm16.size
  clear hr16 hm16 hn8 HJ14 HJ15 HM15 HV14 HV15 HW15
  rcases hcs with ⟨rfl, hrec, hca, hat⟩ | ⟨rfl, hrec, hat⟩
  rotate_left
  · obtain ⟨g16, hg16⟩ : ∃ b, w16.heap.size = b := ⟨_, rfl⟩
    obtain ⟨v17, w17, hrun17, hv17, hm17, ho17⟩ := texts_append (R := fun k => w6.heap.size ≤ k ∧ k < w10.heap.size) 40 HW16.out HV16.out.row (fun k hk => ⟨.inl hk, by simp [Value.ownBlock]; omega⟩) hg16 (by omega)
    obtain ⟨p17, c17, rfl⟩ := hv17.form
    have hmn17 : Mod (fun k => w14.heap.size ≤ k) w16 w17 := hm17.mono (fun k _ h => by simp [Value.ownBlock] at h; omega)
    have HJ17 := Lib.hid (HJ16.out.mod hmn17 (fun k _ h h2 => by have := htb4; omega))
    have HM17 := Lib.hid (HM16.out.new hmn17 (fun k h => by have := HM14.out.size; omega))
    have HR17 := Lib.hid (HR16.out.mod hm17 (fun k _ h h2 => by simp [Value.ownBlock] at h2; omega))
    have HW17 : Hid (IsTexts (fun k => (w6.heap.size ≤ k ∧ k < w10.heap.size) ∨ w14.heap.size ≤ k) w17 (.slice p17 2 c17) 2 s8.recs) := Lib.hid (by rw [hrec]; exact hv17.mono (fun k _ h => by omega))
    have hs17 := hmn17.size
    have HRUN17 := Lib.hid hrun17
    have HREC := Lib.hid hrec
    clear hrun17 hv17 hm17 ho17 hmn17 hrec
    by_cases hca : ca = 0
    · subst hca
      go_wp2_with (first | (at_builtin; refine wpList_append_run rfl _ _ _ _ rfl rfl rfl HRUN17.out ?_))
      clear hg16
      refine (refLists _ _ _ _ _ _ _ _ _ HR17.out HW17.out (by omega)).mono ?_
      rw [decide_eq_true rfl]
      rintro e w18 ⟨rfl, n18, hw18⟩
      have hm18 : Mod nil w17 w18 := by rw [hw18]; exact (Mod.refl _ _).drewN _
      have HJ18 := Lib.hid (HJ17.out.modNil hm18)
      have HM18 := Lib.hid (HM17.out.thenNil hm18)
      have HW18 := Lib.hid (HW17.out.modNil hm18)
      have hs18 := hm18.size
      clear hm18 hw18 HJ17 HM17 HW17 HJ16 HM16 HW16 HV16 HR16 HR17
      have kc := Lib.run_convert_bytes_const (P := Tryz.prog) w18 22 5 #[.int .u8 116, .int .u8 119, .int .u8 111] 3 3 Tryz.underlying22 Tryz.underlying5
      go_wp2_with fail
      obtain ⟨g18, hg18⟩ : ∃ b, w18.heap.size = b := ⟨_, rfl⟩
      (try rw [hg18])
      generalize hw19 : World.alloc w18 _ = w19
      have hm19 : Mod nil w18 w19 := by rw [← hw19]; exact (Mod.refl _ _).alloc _
      have hr19 : IsRow (fun k => k = g18) w19 (.slice (some ⟨g18, 0, Option.none⟩) 3 3) (bys [116, 119, 111]) := by
        refine ⟨_, _, rfl, fun i hi => ⟨g18, 0, rfl, rfl, ?_, ?_⟩⟩
        · rw [← hw19, World.size_alloc]; omega
        · rw [← hw19, ← hg18, World.cell?_alloc_mark]
          have : i = 0 ∨ i = 1 ∨ i = 2 := by simp [bys] at hi; omega
          rcases this with rfl | rfl | rfl <;> rfl
      obtain ⟨d20, hap20, hgd20, hp20, hpl20⟩ := PL.sure HGC.out.1 HGC.out.2 (show 100 / 2 = 50 from rfl) HPL8.out [116, 119, 111] (by simp) (by simp [sectorsF]; omega)
      have hl19 := World.size_alloc
      have hg19 : g18 < w19.heap.size := by rw [← hw19, World.size_alloc]; omega
      refine (jAppend _ (fun k => k = g18) jb2 tb db bl bm s8 dc (some ⟨g18, 0, Option.none⟩) 3 3 [116, 119, 111] w19 (HJ18.out.modNil hm19) (by rw [HGC.out.1.len]; exact HPL8.out.lim) hr19 (fun k hk => by subst hk; exact ⟨hg19, fun h => by omega, by omega⟩) (by omega)).mono ?_
      rw [hap20]
      rintro e w20 ⟨rfl, hj20, hm20⟩
      have hs19 := hm19.size
      have HD20 := Lib.hid hj20.dt
      have HM20 : Hid (Mod nil w w20) := Lib.hid ((HM18.out.thenNil hm19).new hm20 (fun k h => by have := HG2.out; omega))
      have HW20 := Lib.hid ((HW18.out.modNil hm19).mod hm20 (fun k hk h h2 => by have := HG2.out; omega))
      obtain ⟨s9, hs9⟩ : ∃ s, s8.grow [116, 119, 111] = s := ⟨_, rfl⟩
      rw [hs9] at hpl20
      have HS9 : Hid (s9.recs = s8.recs ++ [[116, 119, 111]]) := Lib.hid (by rw [← hs9]; rfl)
      have HGD : Hid (Good d20 100 ∧ d20.pend = [] ∧ PL d20.lasts 50 s9) := Lib.hid ⟨hgd20, hp20, hpl20⟩
      have hs20 := hm20.size
      clear hm19 hr19 hap20 hgd20 hp20 hpl20 hl19 hj20 hm20 hs9 kc hw19 HJ18 HM18 HW18 hg18
      go_wp2_with fail
      refine (jOpen _ tb db bl bm d20 w20 HD20.out).mono ?_
      rintro e w21 ⟨jb3, rfl, hjb3, hj21, hm21⟩
      rw [PL.opens HGD.out.1 (show 100 / 2 = 50 from rfl) (by rw [curs_pend HGD.out.2.1]; exact HGD.out.2.2)] at hj21
      have HJ21 := Lib.hid hj21
      have HM21 : Hid (Mod nil w w21) := Lib.hid (HM20.out.new hm21 (fun k h => by have := HG2.out; omega))
      have HW21 := Lib.hid (HW20.out.mod hm21 (fun k hk h h2 => by have := HG2.out; omega))
      clear hj21 hm21 hjb3 HD20 HM20 HW20
      go_wp2_with fail
      refine (jdPicture HJ21.out (by rw [HGD.out.2.2.gen.2.2.2.2]; simp)).mono ?_
      rw [HGD.out.2.2.gen.2.2.2.2, HGD.out.2.2.gen.2.2.2.1, show ([] : List UInt8).length = 0 from rfl]
      rintro e w22 ⟨p22, c22, rfl, -, hm22⟩
      have HJ22 := Lib.hid (HJ21.out.modNil hm22)
      have HM22 := Lib.hid (HM21.out.thenNil hm22)
      have HW22 := Lib.hid (HW21.out.modNil hm22)
      clear hm22 HJ21 HM21 HW21
      go_wp2_with fail
      refine (jFirst w22).mono ?_
      rintro e w23 ⟨rfl, hm23⟩
      have HJ23 := Lib.hid (HJ22.out.modNil hm23)
      have HM23 := Lib.hid (HM22.out.thenNil hm23)
      have HW23 := Lib.hid (HW22.out.modNil hm23)
      clear hm23 HJ22 HM22 HW22
      go_wp2_with fail
      obtain ⟨n9, hn9⟩ : ∃ n, s9.recs.length = n := ⟨_, rfl⟩
      have hn9b : n9 ≤ 3 := by rw [← hn9, HS9.out, List.length_append, HN8.out]; simp
      refine (jdRecords HJ23.out (fun r hr => HGD.out.2.2.bod r hr) (by omega)).mono ?_
      rw [hn9]
      rintro e w24 ⟨p24, c24, rfl, hr24, hm24⟩
      have HM24 := Lib.hid (HM23.out.thenNil hm24)
      have hw24 := HW23.out.modNil hm24
      clear hn9
      have kc2 := Lib.run_convert_bytes_const (P := Tryz.prog) w24 22 5 #[.int .u8 116, .int .u8 119, .int .u8 111] 3 3 Tryz.underlying22 Tryz.underlying5
      obtain ⟨g24, hg24⟩ : ∃ b, w24.heap.size = b := ⟨_, rfl⟩
      obtain ⟨wa, hwa⟩ : ∃ W, w24.alloc (.cells #[.int .u8 116, .int .u8 119, .int .u8 111] 5 (3, 4)) = W := ⟨_, rfl⟩
      have kc3 : (convert 22 22 (.slice (some ⟨g24, 0, Option.none⟩) 3 3)).run Tryz.prog (w24.alloc (.cells #[.int .u8 116, .int .u8 119, .int .u8 111] 5)) = .ok (.slice (some ⟨g24, 0, Option.none⟩) 3 3) wa := by rw [← hwa, ← hg24]; exact kc2
      clear kc2
      have hga : wa.heap.size = g24 + 1 := by rw [← hwa, World.size_alloc, hg24]
      have hma : Mod nil w24 wa := by rw [← hwa]; exact (Mod.refl _ _).alloc _
      have hra : IsRow (fun k => k = g24) wa (.slice (some ⟨g24, 0, Option.none⟩) 3 3) (bys [116, 119, 111]) := by
        refine ⟨_, _, rfl, fun i hi => ⟨g24, 0, rfl, rfl, by omega, ?_⟩⟩
        rw [← hwa, ← hg24, World.cell?_alloc_mark]
        have : i = 0 ∨ i = 1 ∨ i = 2 := by simp [bys] at hi; omega
        rcases this with rfl | rfl | rfl <;> rfl
      obtain ⟨v26, w26, hrun26, hv26, hm26, ho26⟩ := texts_append (S := fun k => k < w24.heap.size ∨ k = g24) (R := fun k => k = g24) 40 ((hw24.modNil hma).mono (T := fun k => k < w24.heap.size ∨ k = g24) (fun k hk h => by omega)) hra (fun k hk => ⟨.inr hk, fun ho => by have := (hw24.own ho).2; omega⟩) hga (by omega)
      obtain ⟨p26, c26, rfl⟩ := hv26.form
      have HR26 := Lib.hid ((hr24.modNil hma).mod hm26 (fun k hk h ho => by have := (hw24.own ho).2; have := hm24.size; have := (HW23.out.own ho).2; omega))
      have HM26 := Lib.hid ((HM24.out.thenNil hma).new hm26 (fun k h => by have := (HW23.out.own h).1; have := HM14.out.size; have := HG2.out; omega))
      have HV26 := Lib.hid hv26
      have HRUN26 := Lib.hid hrun26
      clear hr24 hm24 hw24 hma hra hrun26 hv26 hm26 ho26 HJ23 HW23
      go_wp2_with (first | (at_builtin; refine wpList_append_run_at (by kernel_rfl) _ _ _ _ rfl rfl rfl HRUN26.out ?_))
      clear kc3 hg24 hwa hga
      refine (refLists _ _ _ _ _ _ _ _ _ HR26.out HV26.out (by omega)).mono ?_
      rw [decide_eq_true HS9.out]
      rintro e w27 ⟨rfl, n27, hw27⟩
      have hm27 : Mod nil w26 w27 := by rw [hw27]; exact (Mod.refl _ _).drewN _
      have HE := Lib.hid (HPOST.out _ _ ⟨rfl, HM26.out.thenNil hm27⟩)
      clear hm27 hw27
      rcases HSP.out with hz | hz
      · subst hz
        go_wp2_with fail
        exact HE.out
      · have hs0 : SN = 0 := by have := HSN.out; rw [hz] at this; exact this.symm
        subst hs0
        by_cases her : ER = 0
        · subst her
          go_wp2_with fail
          exact HE.out
        · have her' : (ER == 0) = false := by simpa using her
          clear her hz
          go_wp2_with fail
          exact HE.out
    · have hca' : (ca == 0) = false := by simpa using hca
      clear hca
      go_wp2_with (first | (at_builtin; refine wpList_append_run rfl _ _ _ _ rfl rfl rfl HRUN17.out ?_))
      clear hg16
      refine (refLists _ _ _ _ _ _ _ _ _ HR17.out HW17.out (by omega)).mono ?_
      rw [decide_eq_true rfl]
      rintro e w18 ⟨rfl, n18, hw18⟩
      have hm18 : Mod nil w17 w18 := by rw [hw18]; exact (Mod.refl _ _).drewN _
      have HJ18 := Lib.hid (HJ17.out.modNil hm18)
      have HM18 := Lib.hid (HM17.out.thenNil hm18)
      have HW18 := Lib.hid (HW17.out.modNil hm18)
      have hs18 := hm18.size
      clear hm18 hw18 HJ17 HM17 HW17 HJ16 HM16 HW16 HV16 HR16 HR17
      have kc := Lib.run_convert_bytes_const (P := Tryz.prog) w18 22 5 #[.int .u8 116, .int .u8 119, .int .u8 111] 3 3 Tryz.underlying22 Tryz.underlying5
      go_wp2_with fail
      obtain ⟨g18, hg18⟩ : ∃ b, w18.heap.size = b := ⟨_, rfl⟩
      (try rw [hg18])
      generalize hw19 : World.alloc w18 _ = w19
      have hm19 : Mod nil w18 w19 := by rw [← hw19]; exact (Mod.refl _ _).alloc _
      have hr19 : IsRow (fun k => k = g18) w19 (.slice (some ⟨g18, 0, Option.none⟩) 3 3) (bys [116, 119, 111]) := by
        refine ⟨_, _, rfl, fun i hi => ⟨g18, 0, rfl, rfl, ?_, ?_⟩⟩
        · rw [← hw19, World.size_alloc]; omega
        · rw [← hw19, ← hg18, World.cell?_alloc_mark]
          have : i = 0 ∨ i = 1 ∨ i = 2 := by simp [bys] at hi; omega
          rcases this with rfl | rfl | rfl <;> rfl
      obtain ⟨d20, hap20, hgd20, hp20, hpl20⟩ := PL.sure HGC.out.1 HGC.out.2 (show 100 / 2 = 50 from rfl) HPL8.out [116, 119, 111] (by simp) (by simp [sectorsF]; omega)
      have hl19 := World.size_alloc
      have hg19 : g18 < w19.heap.size := by rw [← hw19, World.size_alloc]; omega
      refine (jAppend _ (fun k => k = g18) jb2 tb db bl bm s8 dc (some ⟨g18, 0, Option.none⟩) 3 3 [116, 119, 111] w19 (HJ18.out.modNil hm19) (by rw [HGC.out.1.len]; exact HPL8.out.lim) hr19 (fun k hk => by subst hk; exact ⟨hg19, fun h => by omega, by omega⟩) (by omega)).mono ?_
      rw [hap20]
      rintro e w20 ⟨rfl, hj20, hm20⟩
      have hs19 := hm19.size
      have HD20 := Lib.hid hj20.dt
      have HM20 : Hid (Mod nil w w20) := Lib.hid ((HM18.out.thenNil hm19).new hm20 (fun k h => by have := HG2.out; omega))
      have HW20 := Lib.hid ((HW18.out.modNil hm19).mod hm20 (fun k hk h h2 => by have := HG2.out; omega))
      obtain ⟨s9, hs9⟩ : ∃ s, s8.grow [116, 119, 111] = s := ⟨_, rfl⟩
      rw [hs9] at hpl20
      have HS9 : Hid (s9.recs = s8.recs ++ [[116, 119, 111]]) := Lib.hid (by rw [← hs9]; rfl)
      have HGD : Hid (Good d20 100 ∧ d20.pend = [] ∧ PL d20.lasts 50 s9) := Lib.hid ⟨hgd20, hp20, hpl20⟩
      have hs20 := hm20.size
      clear hm19 hr19 hap20 hgd20 hp20 hpl20 hl19 hj20 hm20 hs9 kc hw19 HJ18 HM18 HW18 hg18
      go_wp2_with fail
      refine (jOpen _ tb db bl bm d20 w20 HD20.out).mono ?_
      rintro e w21 ⟨jb3, rfl, hjb3, hj21, hm21⟩
      rw [PL.opens HGD.out.1 (show 100 / 2 = 50 from rfl) (by rw [curs_pend HGD.out.2.1]; exact HGD.out.2.2)] at hj21
      have HJ21 := Lib.hid hj21
      have HM21 : Hid (Mod nil w w21) := Lib.hid (HM20.out.new hm21 (fun k h => by have := HG2.out; omega))
      have HW21 := Lib.hid (HW20.out.mod hm21 (fun k hk h h2 => by have := HG2.out; omega))
      clear hj21 hm21 hjb3 HD20 HM20 HW20
      go_wp2_with fail
      refine (jdPicture HJ21.out (by rw [HGD.out.2.2.gen.2.2.2.2]; simp)).mono ?_
      rw [HGD.out.2.2.gen.2.2.2.2, HGD.out.2.2.gen.2.2.2.1, show ([] : List UInt8).length = 0 from rfl]
      rintro e w22 ⟨p22, c22, rfl, -, hm22⟩
      have HJ22 := Lib.hid (HJ21.out.modNil hm22)
      have HM22 := Lib.hid (HM21.out.thenNil hm22)
      have HW22 := Lib.hid (HW21.out.modNil hm22)
      clear hm22 HJ21 HM21 HW21
      go_wp2_with fail
      refine (jFirst w22).mono ?_
      rintro e w23 ⟨rfl, hm23⟩
      have HJ23 := Lib.hid (HJ22.out.modNil hm23)
      have HM23 := Lib.hid (HM22.out.thenNil hm23)
      have HW23 := Lib.hid (HW22.out.modNil hm23)
      clear hm23 HJ22 HM22 HW22
      go_wp2_with fail
      obtain ⟨n9, hn9⟩ : ∃ n, s9.recs.length = n := ⟨_, rfl⟩
      have hn9b : n9 ≤ 3 := by rw [← hn9, HS9.out, List.length_append, HN8.out]; simp
      refine (jdRecords HJ23.out (fun r hr => HGD.out.2.2.bod r hr) (by omega)).mono ?_
      rw [hn9]
      rintro e w24 ⟨p24, c24, rfl, hr24, hm24⟩
      have HM24 := Lib.hid (HM23.out.thenNil hm24)
      have hw24 := HW23.out.modNil hm24
      clear hn9
      have kc2 := Lib.run_convert_bytes_const (P := Tryz.prog) w24 22 5 #[.int .u8 116, .int .u8 119, .int .u8 111] 3 3 Tryz.underlying22 Tryz.underlying5
      obtain ⟨g24, hg24⟩ : ∃ b, w24.heap.size = b := ⟨_, rfl⟩
      obtain ⟨wa, hwa⟩ : ∃ W, w24.alloc (.cells #[.int .u8 116, .int .u8 119, .int .u8 111] 5 (3, 4)) = W := ⟨_, rfl⟩
      have kc3 : (convert 22 22 (.slice (some ⟨g24, 0, Option.none⟩) 3 3)).run Tryz.prog (w24.alloc (.cells #[.int .u8 116, .int .u8 119, .int .u8 111] 5)) = .ok (.slice (some ⟨g24, 0, Option.none⟩) 3 3) wa := by rw [← hwa, ← hg24]; exact kc2
      clear kc2
      have hga : wa.heap.size = g24 + 1 := by rw [← hwa, World.size_alloc, hg24]
      have hma : Mod nil w24 wa := by rw [← hwa]; exact (Mod.refl _ _).alloc _
      have hra : IsRow (fun k => k = g24) wa (.slice (some ⟨g24, 0, Option.none⟩) 3 3) (bys [116, 119, 111]) := by
        refine ⟨_, _, rfl, fun i hi => ⟨g24, 0, rfl, rfl, by omega, ?_⟩⟩
        rw [← hwa, ← hg24, World.cell?_alloc_mark]
        have : i = 0 ∨ i = 1 ∨ i = 2 := by simp [bys] at hi; omega
        rcases this with rfl | rfl | rfl <;> rfl
      obtain ⟨v26, w26, hrun26, hv26, hm26, ho26⟩ := texts_append (S := fun k => k < w24.heap.size ∨ k = g24) (R := fun k => k = g24) 40 ((hw24.modNil hma).mono (T := fun k => k < w24.heap.size ∨ k = g24) (fun k hk h => by omega)) hra (fun k hk => ⟨.inr hk, fun ho => by have := (hw24.own ho).2; omega⟩) hga (by omega)
      obtain ⟨p26, c26, rfl⟩ := hv26.form
      have HR26 := Lib.hid ((hr24.modNil hma).mod hm26 (fun k hk h ho => by have := (hw24.own ho).2; have := hm24.size; have := (HW23.out.own ho).2; omega))
      have HM26 := Lib.hid ((HM24.out.thenNil hma).new hm26 (fun k h => by have := (HW23.out.own h).1; have := HM14.out.size; have := HG2.out; omega))
      have HV26 := Lib.hid hv26
      have HRUN26 := Lib.hid hrun26
      clear hr24 hm24 hw24 hma hra hrun26 hv26 hm26 ho26 HJ23 HW23
      go_wp2_with (first | (at_builtin; refine wpList_append_run_at (by kernel_rfl) _ _ _ _ rfl rfl rfl HRUN26.out ?_))
      clear kc3 hg24 hwa hga
      refine (refLists _ _ _ _ _ _ _ _ _ HR26.out HV26.out (by omega)).mono ?_
      rw [decide_eq_true HS9.out]
      rintro e w27 ⟨rfl, n27, hw27⟩
      have hm27 : Mod nil w26 w27 := by rw [hw27]; exact (Mod.refl _ _).drewN _
      have HE := Lib.hid (HPOST.out _ _ ⟨rfl, HM26.out.thenNil hm27⟩)
      clear hm27 hw27
      rcases HSP.out with hz | hz
      · subst hz
        go_wp2_with fail
        exact HE.out
      · have hs0 : SN = 0 := by have := HSN.out; rw [hz] at this; exact this.symm
        subst hs0
        by_cases her : ER = 0
        · subst her
          go_wp2_with fail
          exact HE.out
        · have her' : (ER == 0) = false := by simpa using her
          clear her hz
          go_wp2_with fail
          exact HE.out
  · have HREC := Lib.hid hrec
    have HR17 := Lib.hid HR16.out
    have HJ17 := Lib.hid HJ16.out
    have HM17 := Lib.hid HM16.out
    have HW17 : Hid (IsTexts (fun k => (w6.heap.size ≤ k ∧ k < w10.heap.size) ∨ w14.heap.size ≤ k) w16 (.slice (some ⟨g15 + 1, 0, Option.none⟩) 1 1) 1 s8.recs) := Lib.hid (by rw [hrec]; exact HW16.out)
    have hs17 := Nat.le_refl w16.heap.size
    clear hrec
    obtain ⟨w17, hw17⟩ : ∃ x, x = w16 := ⟨_, rfl⟩
    subst hw17
    go_wp2_with fail
    refine (refLists _ _ _ _ _ _ _ _ _ HR17.out HW17.out (by omega)).mono ?_
    rw [decide_eq_true rfl]
    rintro e w18 ⟨rfl, n18, hw18⟩
    have hm18 : Mod nil w17 w18 := by rw [hw18]; exact (Mod.refl _ _).drewN _
    have HJ18 := Lib.hid (HJ17.out.modNil hm18)
    have HM18 := Lib.hid (HM17.out.thenNil hm18)
    have HW18 := Lib.hid (HW17.out.modNil hm18)
    have hs18 := hm18.size
    clear hm18 hw18 HJ17 HM17 HW17 HJ16 HM16 HW16 HV16 HR16 HR17
    have kc := Lib.run_convert_bytes_const (P := Tryz.prog) w18 22 5 #[.int .u8 116, .int .u8 119, .int .u8 111] 3 3 Tryz.underlying22 Tryz.underlying5
    go_wp2_with fail
    obtain ⟨g18, hg18⟩ : ∃ b, w18.heap.size = b := ⟨_, rfl⟩
    (try rw [hg18])
    generalize hw19 : World.alloc w18 _ = w19
    have hm19 : Mod nil w18 w19 := by rw [← hw19]; exact (Mod.refl _ _).alloc _
    have hr19 : IsRow (fun k => k = g18) w19 (.slice (some ⟨g18, 0, Option.none⟩) 3 3) (bys [116, 119, 111]) := by
      refine ⟨_, _, rfl, fun i hi => ⟨g18, 0, rfl, rfl, ?_, ?_⟩⟩
      · rw [← hw19, World.size_alloc]; omega
      · rw [← hw19, ← hg18, World.cell?_alloc_mark]
        have : i = 0 ∨ i = 1 ∨ i = 2 := by simp [bys] at hi; omega
        rcases this with rfl | rfl | rfl <;> rfl
    obtain ⟨d20, hap20, hgd20, hp20, hpl20⟩ := PL.sure HGC.out.1 HGC.out.2 (show 100 / 2 = 50 from rfl) HPL8.out [116, 119, 111] (by simp) (by simp [sectorsF]; omega)
    have hl19 := World.size_alloc
    have hg19 : g18 < w19.heap.size := by rw [← hw19, World.size_alloc]; omega
    refine (jAppend _ (fun k => k = g18) jb2 tb db bl bm s8 dc (some ⟨g18, 0, Option.none⟩) 3 3 [116, 119, 111] w19 (HJ18.out.modNil hm19) (by rw [HGC.out.1.len]; exact HPL8.out.lim) hr19 (fun k hk => by subst hk; exact ⟨hg19, fun h => by omega, by omega⟩) (by omega)).mono ?_
    rw [hap20]
    rintro e w20 ⟨rfl, hj20, hm20⟩
    have hs19 := hm19.size
    have HD20 := Lib.hid hj20.dt
    have HM20 : Hid (Mod nil w w20) := Lib.hid ((HM18.out.thenNil hm19).new hm20 (fun k h => by have := HG2.out; omega))
    have HW20 := Lib.hid ((HW18.out.modNil hm19).mod hm20 (fun k hk h h2 => by have := HG2.out; omega))
    obtain ⟨s9, hs9⟩ : ∃ s, s8.grow [116, 119, 111] = s := ⟨_, rfl⟩
    rw [hs9] at hpl20
    have HS9 : Hid (s9.recs = s8.recs ++ [[116, 119, 111]]) := Lib.hid (by rw [← hs9]; rfl)
    have HGD : Hid (Good d20 100 ∧ d20.pend = [] ∧ PL d20.lasts 50 s9) := Lib.hid ⟨hgd20, hp20, hpl20⟩
    have hs20 := hm20.size
    clear hm19 hr19 hap20 hgd20 hp20 hpl20 hl19 hj20 hm20 hs9 kc hw19 HJ18 HM18 HW18 hg18
    go_wp2_with fail
    refine (jOpen _ tb db bl bm d20 w20 HD20.out).mono ?_
    rintro e w21 ⟨jb3, rfl, hjb3, hj21, hm21⟩
    rw [PL.opens HGD.out.1 (show 100 / 2 = 50 from rfl) (by rw [curs_pend HGD.out.2.1]; exact HGD.out.2.2)] at hj21
    have HJ21 := Lib.hid hj21
    have HM21 : Hid (Mod nil w w21) := Lib.hid (HM20.out.new hm21 (fun k h => by have := HG2.out; omega))
    have HW21 := Lib.hid (HW20.out.mod hm21 (fun k hk h h2 => by have := HG2.out; omega))
    clear hj21 hm21 hjb3 HD20 HM20 HW20
    go_wp2_with fail
    refine (jdPicture HJ21.out (by rw [HGD.out.2.2.gen.2.2.2.2]; simp)).mono ?_
    rw [HGD.out.2.2.gen.2.2.2.2, HGD.out.2.2.gen.2.2.2.1, show ([] : List UInt8).length = 0 from rfl]
    rintro e w22 ⟨p22, c22, rfl, -, hm22⟩
    have HJ22 := Lib.hid (HJ21.out.modNil hm22)
    have HM22 := Lib.hid (HM21.out.thenNil hm22)
    have HW22 := Lib.hid (HW21.out.modNil hm22)
    clear hm22 HJ21 HM21 HW21
    go_wp2_with fail
    refine (jFirst w22).mono ?_
    rintro e w23 ⟨rfl, hm23⟩
    have HJ23 := Lib.hid (HJ22.out.modNil hm23)
    have HM23 := Lib.hid (HM22.out.thenNil hm23)
    have HW23 := Lib.hid (HW22.out.modNil hm23)
    clear hm23 HJ22 HM22 HW22
    go_wp2_with fail
    obtain ⟨n9, hn9⟩ : ∃ n, s9.recs.length = n := ⟨_, rfl⟩
    have hn9b : n9 ≤ 3 := by rw [← hn9, HS9.out, List.length_append, HN8.out]; simp
    refine (jdRecords HJ23.out (fun r hr => HGD.out.2.2.bod r hr) (by omega)).mono ?_
    rw [hn9]
    rintro e w24 ⟨p24, c24, rfl, hr24, hm24⟩
    have HM24 := Lib.hid (HM23.out.thenNil hm24)
    have hw24 := HW23.out.modNil hm24
    clear hn9
    have kc2 := Lib.run_convert_bytes_const (P := Tryz.prog) w24 22 5 #[.int .u8 116, .int .u8 119, .int .u8 111] 3 3 Tryz.underlying22 Tryz.underlying5
    obtain ⟨g24, hg24⟩ : ∃ b, w24.heap.size = b := ⟨_, rfl⟩
    obtain ⟨wa, hwa⟩ : ∃ W, w24.alloc (.cells #[.int .u8 116, .int .u8 119, .int .u8 111] 5 (3, 4)) = W := ⟨_, rfl⟩
    have kc3 : (convert 22 22 (.slice (some ⟨g24, 0, Option.none⟩) 3 3)).run Tryz.prog (w24.alloc (.cells #[.int .u8 116, .int .u8 119, .int .u8 111] 5)) = .ok (.slice (some ⟨g24, 0, Option.none⟩) 3 3) wa := by rw [← hwa, ← hg24]; exact kc2
    clear kc2
    have hga : wa.heap.size = g24 + 1 := by rw [← hwa, World.size_alloc, hg24]
    have hma : Mod nil w24 wa := by rw [← hwa]; exact (Mod.refl _ _).alloc _
    have hra : IsRow (fun k => k = g24) wa (.slice (some ⟨g24, 0, Option.none⟩) 3 3) (bys [116, 119, 111]) := by
      refine ⟨_, _, rfl, fun i hi => ⟨g24, 0, rfl, rfl, by omega, ?_⟩⟩
      rw [← hwa, ← hg24, World.cell?_alloc_mark]
      have : i = 0 ∨ i = 1 ∨ i = 2 := by simp [bys] at hi; omega
      rcases this with rfl | rfl | rfl <;> rfl
    obtain ⟨v26, w26, hrun26, hv26, hm26, ho26⟩ := texts_append (S := fun k => k < w24.heap.size ∨ k = g24) (R := fun k => k = g24) 40 ((hw24.modNil hma).mono (T := fun k => k < w24.heap.size ∨ k = g24) (fun k hk h => by omega)) hra (fun k hk => ⟨.inr hk, fun ho => by have := (hw24.own ho).2; omega⟩) hga (by omega)
    obtain ⟨p26, c26, rfl⟩ := hv26.form
    have HR26 := Lib.hid ((hr24.modNil hma).mod hm26 (fun k hk h ho => by have := (hw24.own ho).2; have := hm24.size; have := (HW23.out.own ho).2; omega))
    have HM26 := Lib.hid ((HM24.out.thenNil hma).new hm26 (fun k h => by have := (HW23.out.own h).1; have := HM14.out.size; have := HG2.out; omega))
    have HV26 := Lib.hid hv26
    have HRUN26 := Lib.hid hrun26
    clear hr24 hm24 hw24 hma hra hrun26 hv26 hm26 ho26 HJ23 HW23
    go_wp2_with (first | (at_builtin; refine wpList_append_run_at (by kernel_rfl) _ _ _ _ rfl rfl rfl HRUN26.out ?_))
    clear kc3 hg24 hwa hga
    refine (refLists _ _ _ _ _ _ _ _ _ HR26.out HV26.out (by omega)).mono ?_
    rw [decide_eq_true HS9.out]
    rintro e w27 ⟨rfl, n27, hw27⟩
    have hm27 : Mod nil w26 w27 := by rw [hw27]; exact (Mod.refl _ _).drewN _
    have HE := Lib.hid (HPOST.out _ _ ⟨rfl, HM26.out.thenNil hm27⟩)
    clear hm27 hw27
    rcases HSP.out with hz | hz
    · subst hz
      go_wp2_with fail
      exact HE.out
    · have hs0 : SN = 0 := by have := HSN.out; rw [hz] at this; exact this.symm
      subst hs0
      by_cases her : ER = 0
      · subst her
        go_wp2_with fail
        exact HE.out
      · have her' : (ER == 0) = false := by simpa using her
        clear her hz
        go_wp2_with fail
        exact HE.out
set_option maxRecDepth 100000 in
theorem walkJournalSpells (v0 v1 v2 v3 v4 v5 v6 : Value) (W : World) (r0 : Rd W 22 v0) (r1 : Rd W 3 v1) (r2 : Rd W 3 v2) (r3 : Rd W 3 v3) (r4 : Rd W 3 v4) (r5 : Rd W 3 v5) (r6 : Rd W 23 v6) :
    Calls Tryz.prog 3 #[v0, v1, v2, v3, v4, v5, v6] W fun e w' => e = .returned (.bool true) ∧ Below W.heap.size W w' := by
  obtain ⟨b, hb, -⟩ := r0.bytes
  obtain ⟨kind, rfl, -⟩ := Rd.int Tryz.underlying3 r1
  obtain ⟨gen, rfl, -⟩ := Rd.int Tryz.underlying3 r2
  obtain ⟨seq, rfl, -⟩ := Rd.int Tryz.underlying3 r3
  obtain ⟨pad, rfl, -⟩ := Rd.int Tryz.underlying3 r4
  obtain ⟨fuse, rfl, -⟩ := Rd.int Tryz.underlying3 r5
  obtain ⟨keep, hk, -⟩ := r6.bools
  obtain ⟨pb, cb, rfl, _⟩ := id hb
  obtain ⟨pk, ck, rfl, _⟩ := id hk
  rw [bys_length] at *
  rw [List.length_map] at *
  by_cases h : spellBad b.length pad fuse keep.length
  · exact (lawSpells_bad pb pk _ cb _ ck kind gen seq pad fuse W h).mono fun e w' ⟨h1, h2⟩ => ⟨h1, h2.below⟩
  · have h' := h
    unfold spellBad at h'
    obtain ⟨p, rfl⟩ : ∃ k : Nat, pad = k := ⟨pad.toNat, by omega⟩
    obtain ⟨f, rfl⟩ : ∃ k : Nat, fuse = k := ⟨fuse.toNat, by omega⟩
    exact (lawSpells pb pk _ cb _ ck p f kind gen seq b keep W (by omega) (by omega) (by omega) (by omega) hb hk).mono fun e w' ⟨h1, h2⟩ => ⟨h1, h2.below⟩
end Go.Proofs.YtjilbnpehgigjaaGreat

/- cfllaw23.DiaryLasts: behind any crash the entries are those that were told OK, and at most the one under way. (Printed by wip/tools/gen_lawdiarylasts.py.) -/
import Derived.Test.YtjjcmdblohbneaaGreatDiaryOps
namespace Go.Proofs.YtjjcmdblohbneaaGreat
open Go.RowKit
/-- a diary that a statement plays with, and its own list of entries -/
structure DV (B : Nat) (F R : Nat → Prop) (w : World) (yb tb db bl bm : Nat) (y : YS) (v : Value) (m : Nat) (l : List En) (n N : Nat) : Prop where
  yy : IsY F w yb tb db bl bm y
  own : ∀ k, F k → B ≤ k ∧ k < w.heap.size
  ents : IsEnts R w v m l
  rown : ∀ k, R k → k < w.heap.size ∧ ¬ F k ∧ k ≠ tb
  vown : ∀ k, v.ownBlock = some k → B ≤ k
  tb : B ≤ tb
  inv : YP n N y
theorem DV.modNil {B : Nat} {F R : Nat → Prop} {w w' : World} {yb tb db bl bm : Nat} {y : YS} {v : Value} {m : Nat} {l : List En} {n N : Nat} (h : DV B F R w yb tb db bl bm y v m l n N) (hm : Mod nil w w') : DV B F R w' yb tb db bl bm y v m l n N :=
  ⟨h.yy.modNil hm, fun k hk => ⟨(h.own k hk).1, Nat.lt_of_lt_of_le (h.own k hk).2 hm.size⟩, h.ents.modNil hm, fun k hk => ⟨Nat.lt_of_lt_of_le (h.rown k hk).1 hm.size, (h.rown k hk).2⟩, h.vown, h.tb, h.inv⟩
theorem DV.turned {B : Nat} {F R : Nat → Prop} {w w' : World} {yb tb db bl bm : Nat} {y : YS} {v : Value} {m : Nat} {l : List En} {n N : Nat} (h : DV B F R w yb tb db bl bm y v m l n N) {yb' : Nat} {y' : YS} (hy : IsY (fun k => F k ∨ w.heap.size ≤ k) w' yb' tb db bl bm y') (hm : Mod (fun k => F k ∨ k = tb) w w') (hi : YP n N y') (hB : B ≤ w.heap.size) :
    DV B (fun k => (F k ∨ w.heap.size ≤ k) ∧ k < w'.heap.size) R w' yb' tb db bl bm y' v m l n N :=
  ⟨hy.mono (fun k hk h => ⟨h, hk⟩), fun k hk => ⟨hk.1.elim (fun x => (h.own k x).1) (fun x => Nat.le_trans hB x), hk.2⟩, h.ents.mod hm (fun k _ hk e => e.elim (h.rown k hk).2.1 (h.rown k hk).2.2), fun k hk => ⟨Nat.lt_of_lt_of_le (h.rown k hk).1 hm.size, fun x => x.1.elim (h.rown k hk).2.1 (fun y => by have := (h.rown k hk).1; omega), (h.rown k hk).2.2⟩, h.vown, h.tb, hi⟩
/-- the list of entries with one more -/
theorem DV.push {B : Nat} {F R T : Nat → Prop} {w : World} {yb tb db bl bm : Nat} {y : YS} {v x : Value} {m : Nat} {l : List En} {n N g : Nat} (h : DV B F R w yb tb db bl bm y v m l n N) {e : En} (hx : IsRow T w x (bys e.b)) (hT : ∀ k, T k → k < w.heap.size ∧ ¬ F k ∧ k ≠ tb ∧ ¬ v.ownBlock = some k) (hg : w.heap.size = g) (hB : B ≤ w.heap.size) (hm : m ≤ 100000) (ty : TypeId) :
    ∃ p c w', (Builtin.append_ #[33, 33] ty #[v, .slice (some ⟨g, 0, none⟩) 1 1]).run Tryz.prog (w.alloc (.cells #[.int .i64 e.k, x] 36)) = .ok (.slice p (m + 1) c) w' ∧
      DV B F (fun k => ((R k ∨ T k) ∨ w.heap.size ≤ k) ∧ k < w'.heap.size) w' yb tb db bl bm y (.slice p (m + 1) c) (m + 1) (l ++ [e]) n N ∧ Mod (fun k => v.ownBlock = some k) w w' := by
  obtain ⟨v', w', hrun, hv', hm2, ho⟩ := ents_append (R := T) (g := g) ty (h.ents.mono (T := fun k => R k ∨ T k) (fun _ _ hk => .inl hk)) hx (fun k hk => ⟨.inr hk, (hT k hk).2.2.2⟩) hg (by omega)
  obtain ⟨p, c, rfl⟩ := hv'.form
  have hno : ∀ k, v.ownBlock = some k → R k := fun k hk => (h.ents.own hk).1
  refine ⟨p, c, w', hrun, ⟨h.yy.mod hm2 (fun k hk hF ho => by
    have := h.rown k (hno k ho)
    exact hF.elim this.2.1 this.2.2), fun k hk => ⟨(h.own k hk).1, Nat.lt_of_lt_of_le (h.own k hk).2 hm2.size⟩, hv'.mono (fun k hk h => ⟨h, hk⟩), fun k hk => ⟨hk.2, ?_, ?_⟩, fun k hk => ?_, h.tb, h.inv⟩, hm2⟩
  · rcases hk.1 with (h1 | h1) | h1
    · exact (h.rown k h1).2.1
    · exact (hT k h1).2.1
    · exact fun hf => by have := (h.own k hf).2; omega
  · rcases hk.1 with (h1 | h1) | h1
    · exact (h.rown k h1).2.2
    · exact (hT k h1).2.2.1
    · intro e; have := h.yy.tab.lt; omega
  · rcases ho k hk with h1 | h1
    · exact h.vown k h1
    · exact Nat.le_trans hB h1
set_option maxRecDepth 100000 in
theorem lawDLasts_bad (ps : Option Addr) (len cs : Nat) (l : List OpY) (w : World) (hl : IsOps (· < w.heap.size) w (.slice ps len cs) l) (hm : len ≤ 9223372036854775807) (hb : ∀ o ∈ l, o.e.b.length ≤ maxLen ∧ o.keep.length ≤ maxLen) (hbad : 60 < len ∨ fewY l = false) :
    Calls Tryz.prog 5 #[.slice ps len cs] w fun e w' => e = .returned (.bool true) ∧ Mod nil w w' := by
  by_cases h60 : 60 < len
  · clear hbad hb hl
    have h60' : 60 < (len : Int) := by omega
    go_enter Tryz.func5, Tryz.ntmps5
    go_wp2_with fail
    refine (yFirst w).mono ?_
    rintro e w1 ⟨rfl, hm1⟩
    go_wp2_with fail
    refine (yFirst w1).mono ?_
    rintro e w2 ⟨rfl, hm2⟩
    go_wp2_with fail
    go_ret
    exact ⟨rfl, hm1.thenNil hm2⟩
  · have hf := hbad.resolve_left h60
    have HF := Lib.hid hf
    have HL := Lib.hid hl
    have HB := Lib.hid hb
    have h60' : (len : Int) ≤ 60 := by omega
    clear hbad hb hl hf h60
    go_enter Tryz.func5, Tryz.ntmps5
    go_wp2_with fail
    refine (yFirst w).mono ?_
    rintro e w1 ⟨rfl, hm1⟩
    have HM1 := Lib.hid hm1
    have HFW : Hid (∀ W, Mod nil w W → Calls Tryz.prog 19 #[.slice ps len cs] W fun e w' => e = .returned (.bool false) ∧ Mod nil W w') := Lib.hid (fun W m => by
      obtain ⟨p', c', h1, h2⟩ := HL.out.modNil m
      have h := yFew ps len cs l W ⟨p', c', h1, fun i hi => by obtain ⟨b, off, pb, nb, cb, pk, nk, ck, a, hb, c, k0, k1, k2, k3, k4, r1, r2⟩ := h2 i hi; exact ⟨b, off, pb, nb, cb, pk, nk, ck, a, c, c, k0, k1, k2, k3, k4, r1.mono (fun k hk _ => hk), r2.mono (fun k hk _ => hk)⟩⟩ hm HB.out
      rw [HF.out] at h
      exact h)
    clear hm1
    go_wp2_with fail
    refine (HFW.out _ HM1.out).mono ?_
    rintro e w2 ⟨rfl, hm2⟩
    go_wp2_with fail
    refine (yFirst w2).mono ?_
    rintro e w3 ⟨rfl, hm3⟩
    go_wp2_with fail
    go_ret
    exact ⟨rfl, (HM1.out.thenNil hm2).thenNil hm3⟩
set_option maxRecDepth 100000 in
set_option maxHeartbeats 8000000 in
theorem lawDLasts (ps : Option Addr) (len cs : Nat) (l0 : List OpY) (w : World) (hl : IsOps (· < w.heap.size) w (.slice ps len cs) l0) (hm : len ≤ 60) (hb : ∀ o ∈ l0, o.e.b.length ≤ maxLen ∧ o.keep.length ≤ maxLen ∧ -9223372036854775808 ≤ o.n ∧ o.n ≤ 9223372036854775807) (hfew : fewY l0 = true) :
    Calls Tryz.prog 5 #[.slice ps len cs] w fun e w' => e = .returned (.bool true) ∧ Mod nil w w' := by
  refine (?_ : ∀ Post : Ending → World → Prop, Hid (∀ e w', (e = .returned (.bool true) ∧ Mod nil w w') → Post e w') → Calls Tryz.prog 5 #[.slice ps len cs] w Post) _ (Lib.hid (fun _ _ h => h))
  intro Post HPOST
  have hll : l0.length = len := by obtain ⟨_, _, h, _⟩ := hl; simp only [Value.slice.injEq] at h; exact h.2.1.symm
  have HLL := Lib.hid hll
  have HL := Lib.hid hl
  have HBO := Lib.hid hb
  have h60' : (len : Int) ≤ 60 := by omega
  have HBS : Hid (∀ o ∈ l0, o.e.b.length ≤ 50000) := Lib.hid (by
    unfold fewY at hfew
    simp only [Bool.and_eq_true, decide_eq_true_eq] at hfew
    have h2 := hfew.2
    rw [Nat.min_eq_left hfew.1] at h2
    exact opSum_each l0 h2)
  have HFW : Hid (∀ W, Mod nil w W → Calls Tryz.prog 19 #[.slice ps len cs] W fun e w' => e = .returned (.bool true) ∧ Mod nil W w') := Lib.hid (fun W m => by
    obtain ⟨p', c', h1, h2⟩ := HL.out.modNil m
    have h := yFew ps len cs l0 W ⟨p', c', h1, fun i hi => by obtain ⟨b, off, pb, nb, cb, pk, nk, ck, a, hb, c, k0, k1, k2, k3, k4, r1, r2⟩ := h2 i hi; exact ⟨b, off, pb, nb, cb, pk, nk, ck, a, c, c, k0, k1, k2, k3, k4, r1.mono (fun k hk _ => hk), r2.mono (fun k hk _ => hk)⟩⟩ (by omega) (fun o ho => ⟨(HBO.out o ho).1, (HBO.out o ho).2.1⟩)
    rw [hfew] at h
    exact h)
  clear hl hll hb
  go_enter Tryz.func5, Tryz.ntmps5
  go_wp2_with fail
  refine (yFirst w).mono ?_
  rintro e w0 ⟨rfl, hm0⟩
  have HM0 := Lib.hid hm0
  clear hm0 hfew
  go_wp2_with fail
  refine (HFW.out _ HM0.out).mono ?_
  rintro e w1 ⟨rfl, hm1⟩
  have HM1 := Lib.hid (HM0.out.thenNil hm1)
  clear hm1
  go_wp2_with fail
  refine (shaNewTable w1).mono ?_
  rintro e w2 ⟨tb, rfl, ht2, htb, hm2⟩
  have HT2 := Lib.hid ht2
  have HM2 := Lib.hid (HM1.out.thenNil hm2)
  have htb0 : w.heap.size ≤ tb := Nat.le_trans HM1.out.size htb
  clear ht2 htb hm2
  go_wp2_with fail
  refine (diskNew 300 w2 (by omega) (by omega)).mono ?_
  rintro e w3 ⟨db, bl, bm, C, rfl, hd3, hfoot, hm3⟩
  have HY0 : Hid (YI 300 150 ⟨JS.fresh (freshDisk 300), freshDisk 300, []⟩ ∧ YP 300 150 ⟨JS.fresh (freshDisk 300), freshDisk 300, []⟩) := Lib.hid ⟨YI.fresh 300 150 rfl (by omega), YP.fresh 300 150 rfl (by omega)⟩
  obtain ⟨d, hd⟩ : ∃ d, freshDisk 300 = d := ⟨_, rfl⟩
  rw [hd] at hd3 HY0
  have HDT : Hid (IsDT (fun k => w2.heap.size ≤ k) w3 tb db bl bm d) := Lib.hid (IsDT.of hd3 (HT2.out.mod hm3 (not_nil _)) (fun k hk _ => ⟨hfoot k hk, by have := hfoot k hk; have := HT2.out.lt; omega⟩))
  have HM3 := Lib.hid (HM2.out.thenNil hm3)
  have h23 := hm3.size
  clear hd hd3 hfoot hm3
  go_wp2_with fail
  refine (diaryOpen_ok HY0.out.1 _ tb db bl bm w3 HDT.out).mono ?_
  rintro e w4 ⟨yb, hyb, rfl, hy4, hm4⟩
  obtain ⟨B, hB⟩ : ∃ B, w.heap.size = B := ⟨_, rfl⟩
  rw [hB] at htb0
  have HB := Lib.hid hB
  have HW4 : Hid (DV B (fun k => w2.heap.size ≤ k ∧ k < w4.heap.size) (fun _ => False) w4 yb tb db bl bm ⟨JS.fresh d, d, []⟩ (.slice Option.none 0 0) 0 [] 300 150) := Lib.hid
    ⟨hy4.mono (fun k hk h => ⟨h.elim id (fun h => Nat.le_trans h23 h), hk⟩), fun k hk => ⟨by have := HM2.out.size; omega, hk.2⟩, IsEnts.nil _ _, fun _ h => h.elim, fun k hk => by simp [Value.ownBlock] at hk, htb0, HY0.out.2⟩
  have HM4 := Lib.hid (HM3.out.new hm4 (fun k h => by rw [h]; omega))
  clear hB hy4 hm4 hyb h23
  go_wp2_with fail
  go_loopw [6, 7, 8, 9] (fun v6 v7 v8 v9 wr => ∃ (i m yb : Nat) (F R : Nat → Prop) (y : YS) (l : List En) (q : Option Addr) (c : Nat), i ≤ len ∧ v9 = .int .i64 i ∧ v8 = .slice q m c ∧ v6 = .pointer (some ⟨yb, 0, none⟩) ∧ v7 = .int .i64 0 ∧ m ≤ i ∧ Hid (y.l = l) ∧ Hid (DV B F R wr yb tb db bl bm y (.slice q m c) m l 300 150) ∧ Hid (Mod nil w wr)) (fun _ _ _ v _ => len - (intOf v).toNat)
  case atStart => exact ⟨0, 0, yb, _, _, _, [], Option.none, 0, by omega, rfl, rfl, rfl, rfl, by omega, Lib.hid rfl, HW4, HM4⟩
  case round =>
    obtain ⟨i, m, yb, F, R, y, l, q, c, hi, rfl, rfl, rfl, rfl, hmi, HYL, HW, HMW⟩ := hrel
    have hBr : B ≤ wr.heap.size := by have := HMW.out.size; have := HB.out; omega
    by_cases hlt : i < len
    · have hil : i < l0.length := by rw [HLL.out]; exact hlt
      obtain ⟨_, _, he, hcc⟩ := HL.out
      simp only [Value.slice.injEq] at he
      obtain ⟨rfl, -, -⟩ := he
      obtain ⟨bo, oo, pb, nb, cb, pk, nk, ck, rfl, hbB, hbw, j0, j1, j2, j3, j4, r1, r2⟩ := hcc i hil
      have hbs := HBS.out _ (List.getElem_mem hil)
      have hbo := HBO.out _ (List.getElem_mem hil)
      obtain ⟨o, ho⟩ : ∃ o, l0[i] = o := ⟨_, rfl⟩
      rw [ho] at j0 j1 j2 r1 r2 hbs hbo
      obtain ⟨kind, fn, ⟨kz, eb⟩, keep⟩ := o
      simp only at j0 j1 j2 r1 r2 hbs hbo
      have k0 := cell_kept j0 HMW.out hbw (not_nil _)
      have k1 := cell_kept j1 HMW.out hbw (not_nil _)
      have k2 := cell_kept j2 HMW.out hbw (not_nil _)
      have k3 := cell_kept j3 HMW.out hbw (not_nil _)
      have k4 := cell_kept j4 HMW.out hbw (not_nil _)
      have hnb : eb.length = nb := by obtain ⟨_, _, h, _⟩ := r1; simp only [Value.slice.injEq, bys_length] at h; exact h.2.1.symm
      have HNB := Lib.hid hnb
      rw [hnb] at hbs
      have hkl : keep.length ≤ 9223372036854775807 := by have := hbo.2.1; unfold maxLen at this; omega
      obtain ⟨-, -, hfn1, hfn2⟩ := hbo
      have HRE : Hid (∀ W, Mod nil w W → IsRow (· < B) W (.slice pb nb cb) (bys eb)) := Lib.hid (fun W mm => (r1.mono (T := (· < B)) (fun k _ h => by have := HB.out; omega)).modNil mm)
      have HRK : Hid (∀ W, Mod nil w W → IsRow (· < B) W (.slice pk nk ck) (keep.map Value.bool)) := Lib.hid (fun W mm => (r2.mono (T := (· < B)) (fun k _ h => by have := HB.out; omega)).modNil mm)
      obtain ⟨X, hX⟩ : ∃ X, wr.heap.size = X := ⟨_, rfl⟩
      have HX := Lib.hid hX
      have hXb : B ≤ X := by omega
      have hXF0 : ¬ F X := fun h => by have := (HW.out.own X h).2; omega
      have hXt : ¬ X = tb := fun h => by have := HW.out.yy.tab.lt; omega
      clear j0 j1 j2 j3 j4 r1 r2 hcc ho hnb hbB hX
      go_upto_region 17 with (fail)
      (try rw [HX.out])
      generalize hwx : World.alloc wr _ = wx
      have hxx : wx.heap[X]? = some (.cells #[.int .i64 kind, .int .i64 fn, .int .i64 kz, .slice pb nb cb, .slice pk nk ck] 57 (0, 0)) := by rw [← hwx, ← HX.out]; exact heap_alloc_new _ _
      have hmx : Mod nil wr wx := by rw [← hwx]; exact (Mod.refl _ _).alloc _
      have HXX := Lib.hid hxx
      have HWX := Lib.hid (HW.out.modNil hmx)
      have HMX := Lib.hid (HMW.out.thenNil hmx)
      have hsx : wx.heap.size = X + 1 := by rw [← hwx, World.size_alloc, HX.out]
      have HSX := Lib.hid hsx
      have u0 := cell_of hxx 0
      have u1 := cell_of hxx 1
      have u2 := cell_of hxx 2
      have u3 := cell_of hxx 3
      simp only [List.getElem?_toArray, List.getElem?_cons_zero, List.getElem?_cons_succ] at u0 u1 u2 u3
      have hBx : B ≤ wx.heap.size := by omega
      clear hwx hxx hmx hsx k0 k1 k2 k3 k4 HW HMW
      by_cases hk2 : kind = 2
      · subst hk2
        have HF := Lib.hid (yFuse F yb tb db bl bm y fn wx HWX.out.yy hfn2)
        go_wp2_with fail
        refine HF.out.mono ?_
        rintro e w7 ⟨rfl, hy7, hm7⟩
        have HW7 := Lib.hid (HWX.out.turned (hy7.mono (fun _ _ h => .inl h)) hm7 (HWX.out.inv.fused _) hBx)
        have HM7 : Hid (Mod nil w w7) := Lib.hid (HMX.out.new hm7 (fun k h => by have := HB.out; rcases h with h | h; exact (by have := (HWX.out.own k h).1; omega); exact (by omega)))
        clear hy7 hm7 HF u0 u1 u2 u3
        go_wp2_with fail
        exact ⟨⟨i + 1, m, yb, _, _, ⟨y.s, { y.d with fuse := max fn (-1) }, y.l⟩, l, q, c, by omega, by go_num, rfl, rfl, rfl, by omega, HYL, HW7, HM7⟩, by simp [intOf]; omega⟩
      · have hkb2 : (kind == 2) = false := by simpa using hk2
        by_cases hk0 : kind = 0
        · subst hk0
          by_cases hkz : 0 ≤ kz ∧ kz ≤ 255
          · obtain ⟨hkz0, hkz1⟩ := hkz
            obtain ⟨kk, rfl⟩ := Int.eq_ofNat_of_zero_le hkz0
            have hkk : kk ≤ 255 := by omega
            have hcall := diaryAdd F (· < B) yb tb db bl bm nb cb kk y eb pb wx HWX.out.yy HWX.out.inv.lim (HRE.out wx HMX.out) (fun j hj => ⟨by omega, fun h => by have := (HWX.out.own j h).1; omega, by omega⟩) hkk (by omega) (by have := HWX.out.inv.few; omega)
            have hadd := HWX.out.inv.add ⟨(kk : Nat), eb⟩ (by simp only; rw [HNB.out]; omega)
            obtain ⟨ya, hya⟩ : ∃ ya, y.add ⟨(kk : Nat), eb⟩ = ya := ⟨_, rfl⟩
            rw [hya] at hcall hadd
            obtain ⟨y', er⟩ := ya
            simp only at hcall hadd
            have HC := Lib.hid hcall
            clear hcall hya hkz0 hkz1
            rcases hadd with ⟨h1, h2, h3⟩ | ⟨h1, h2, h3, -, -⟩ | ⟨h1, -, -, h4⟩
            · simp only [Prod.mk.injEq, and_true] at h1
              subst h1
              have hb1 : (er == 0) = false := by simpa using h2
              have hb2 : (er != 13) = true := by simpa using h3
              clear h2 h3
              go_wp2_with fail
              refine HC.out.mono ?_
              rintro e w7 ⟨rfl, hy7, hm7⟩
              have HW7 := Lib.hid (HWX.out.turned hy7 hm7 HWX.out.inv hBx)
              have HM7 : Hid (Mod nil w w7) := Lib.hid (HMX.out.new hm7 (fun k h => by have := HB.out; rcases h with h | h; exact (by have := (HWX.out.own k h).1; omega); exact (by omega)))
              clear hy7 hm7 HC u0 u1 u2 u3
              go_wp2_with fail
              exact ⟨⟨i + 1, m, yb, _, _, _, l, q, c, by omega, by go_num, rfl, rfl, rfl, by omega, HYL, HW7, HM7⟩, by simp [intOf]; omega⟩
            · subst h1
              have HI := Lib.hid h2
              have HL' : Hid (y'.l = l ++ [⟨(kk : Nat), eb⟩]) := Lib.hid (by rw [h3, HYL.out])
              clear h2 h3
              go_wp2_with fail
              refine HC.out.mono ?_
              rintro e w7 ⟨rfl, hy7, hm7⟩
              have HW7 := Lib.hid (HWX.out.turned hy7 hm7 HI.out hBx)
              have HM7 : Hid (Mod nil w w7) := Lib.hid (HMX.out.new hm7 (fun k h => by have := HB.out; rcases h with h | h; exact (by have := (HWX.out.own k h).1; omega); exact (by omega)))
              have hx7 := (hm7.block X (by have := HSX.out; omega) (fun e => e.elim hXF0 hXt)).trans HXX.out
              have z2 := cell_of hx7 2
              have z3 := cell_of hx7 3
              simp only [List.getElem?_toArray, List.getElem?_cons_zero, List.getElem?_cons_succ] at z2 z3
              have hs7 := hm7.size
              obtain ⟨g2, hg2⟩ : ∃ g2, w7.heap.size = g2 := ⟨_, rfl⟩
              obtain ⟨p8, c8, w8, hrun8, hw8, hm8⟩ := HW7.out.push (e := ⟨(kk : Nat), eb⟩) (HRE.out w7 HM7.out) (fun k hk => ⟨by omega, fun h => by have := (HW7.out.own k h).1; omega, by omega, fun ho => by have := HWX.out.vown k ho; omega⟩) hg2 (by omega) (by omega) 33
              have HRUN := Lib.hid hrun8
              have HW8 := Lib.hid hw8
              have HM8 : Hid (Mod nil w w8) := Lib.hid (HM7.out.new hm8 (fun k h => by have := HB.out; have := HW7.out.vown k h; omega))
              clear hy7 hm7 hx7 hrun8 hw8 hm8 HC u0 u1 u2 u3
              go_wp2_with (first | (at_builtin; refine wpList_append_run rfl _ _ _ _ rfl rfl rfl HRUN.out ?_))
              exact ⟨⟨i + 1, m + 1, yb, _, _, y', _, p8, c8, by omega, by go_num, rfl, rfl, rfl, by omega, HL', HW8, HM8⟩, by simp [intOf]; omega⟩
            · subst h1
              have H4 := Lib.hid (h4 keep)
              clear h4
              go_upto_region 25 with (first | (go_at_call 11; refine HC.out.mono ?_; rintro e wq ⟨rfl, hyq, hmq⟩))
              obtain ⟨dq, hdq⟩ : ∃ dq, y'.d = dq := ⟨_, rfl⟩
              rw [hdq] at H4
              obtain ⟨FQ, hFQ⟩ : ∃ FQ : Nat → Prop, FQ = fun k => (F k ∨ wx.heap.size ≤ k) ∧ k < wq.heap.size := ⟨_, rfl⟩
              have HDTQ : Hid (IsDT FQ wq tb db bl bm dq) := Lib.hid (by rw [← hdq, hFQ]; exact (hyq.mono (fun k hk h => ⟨h, hk⟩)).dt)
              have HFQ : Hid (∀ k, FQ k → B ≤ k ∧ k < wq.heap.size) := Lib.hid (fun k h => by rw [hFQ] at h; exact ⟨h.1.elim (fun h => (HWX.out.own k h).1) (fun h => by omega), h.2⟩)
              have hXF : ¬ FQ X := by rw [hFQ]; exact fun h => h.1.elim hXF0 (fun h => by have := HSX.out; omega)
              have hno : ∀ k, R k → ¬ (F k ∨ k = tb) := fun k h e => e.elim (HWX.out.rown k h).2.1 (HWX.out.rown k h).2.2
              have HEQ : Hid (IsEnts R wq (.slice q m c) m l) := Lib.hid (HWX.out.ents.mod hmq (fun k _ hk => hno k hk))
              have HRQ : Hid (∀ k, R k → k < wq.heap.size ∧ ¬ FQ k ∧ k ≠ tb) := Lib.hid (fun k h => ⟨Nat.lt_of_lt_of_le (HWX.out.rown k h).1 hmq.size, by rw [hFQ]; exact fun x => x.1.elim (HWX.out.rown k h).2.1 (fun y => by have := (HWX.out.rown k h).1; omega), (HWX.out.rown k h).2.2⟩)
              have HVO := Lib.hid HWX.out.vown
              have HXQ : Hid (wq.heap[X]? = _) := Lib.hid ((hmq.block X (by have := HSX.out; omega) (fun e => e.elim hXF0 hXt)).trans HXX.out)
              have HMQ : Hid (Mod nil w wq) := Lib.hid (HMX.out.new hmq (fun k h => by have := HB.out; rcases h with h | h; exact (by have := (HWX.out.own k h).1; omega); exact (by omega)))
              have HRKQ := Lib.hid (HRK.out wq HMQ.out)
              clear hyq hmq hdq hFQ hno HC u0 u1 u2 u3 hXF0 hBx HSX HWX HMX HXX
              rcases H4.out.2 with h5 | h5
              · obtain ⟨yN, hyN⟩ : ∃ yN : YS, YS.mk y.s (dq.crash keep) y.l = yN := ⟨_, rfl⟩
                have HNX : Hid (Good (dq.crash keep) 300 ∧ YP 300 150 yN ∧ yN.d = dq.crash keep ∧ yN.l = l) := Lib.hid ⟨H4.out.1, by rw [← hyN]; exact h5, by rw [← hyN], by rw [← hyN]; exact HYL.out⟩
                clear h5 hyN H4
                have xk := cell_of HXQ.out 4
                have xk0 := cell_of HXQ.out 0
                have xk2 := cell_of HXQ.out 2
                have xk3 := cell_of HXQ.out 3
                simp only [List.getElem?_toArray, List.getElem?_cons_zero, List.getElem?_cons_succ] at xk xk0 xk2 xk3
                have HCR := Lib.hid (dtCrash FQ (· < B) tb db bl bm dq (.slice pk nk ck) keep wq HDTQ.out HRKQ.out (fun k hk h => by have := HFQ.out k h; omega) hkl)
                go_wp2_with fail
                refine HCR.out.mono ?_
                rintro e wr1 ⟨rfl, hdt1, hmc⟩
                have hx1 := (hmc.block X (heap_lt HXQ.out) (fun h => hXF h.1)).trans HXQ.out
                have HX1 := Lib.hid hx1
                have HE1 : Hid (IsEnts R wr1 (.slice q m c) m l) := Lib.hid (HEQ.out.mod hmc (fun k _ hk h => (HRQ.out k hk).2.1 h.1))
                have HM1 : Hid (Mod nil w wr1) := Lib.hid (HMQ.out.new hmc (fun k h => by have := HFQ.out k h.1; have := HB.out; omega))
                have HDT1 := Lib.hid hdt1
                have hs1 := hmc.size
                have ho := HNX.out.2.1.opens (by rw [HNX.out.2.2.1]; exact HNX.out.1)
                rw [HNX.out.2.2.1] at ho
                have HOP := Lib.hid (diaryOpen FQ tb db bl bm (dq.crash keep) wr1 hdt1 (by rw [ho]; exact HNX.out.2.1.pl.bod) (by rw [ho, HNX.out.2.1.pl.gen.2.2.2.2]; simp) (by rw [ho]; have h1 := HNX.out.2.1.lim.2.2.1; have h2 := HNX.out.2.1.pl.le; have h3 := HNX.out.2.1.pl.room.2; omega))
                have HO := Lib.hid ho
                clear hdt1 hmc hx1 ho xk xk0 xk2 xk3 HCR
                go_wp2_with fail
                refine HOP.out.mono ?_
                rintro e wr2 hpost
                obtain ⟨yb2, hyb2, rfl, hy2, hm2⟩ : ∃ yb2, wr1.heap.size ≤ yb2 ∧ e = .returned (.tuple #[.pointer (some ⟨yb2, 0, none⟩), .int .i64 0]) ∧ IsY (fun j => FQ j ∨ wr1.heap.size ≤ j) wr2 yb2 tb db bl bm yN ∧ Mod (· = tb) wr1 wr2 := by
                  rcases hpost with ⟨yb, h1, h2, h3, h4, h5⟩ | ⟨h1, -⟩
                  · refine ⟨yb, h1, h3, ?_, h5⟩
                    rw [HO.out, HNX.out.2.1.map, ← HNX.out.2.2.1] at h4
                    exact h4
                  · exact absurd ⟨by rw [HO.out]; exact HNX.out.2.1.pl.gen.2.2.2.1, by rw [HO.out]; exact HNX.out.2.1.full⟩ h1
                have HW2 : Hid (DV B (fun k => (FQ k ∨ wr1.heap.size ≤ k) ∧ k < wr2.heap.size) R wr2 yb2 tb db bl bm yN (.slice q m c) m l 300 150) := Lib.hid
                  ⟨hy2.mono (fun k hk h => ⟨h, hk⟩), fun k hk => ⟨hk.1.elim (fun h => (HFQ.out k h).1) (fun h => by have := heap_lt HXQ.out; omega), hk.2⟩, HE1.out.mod hm2 (fun k _ hk e => (HRQ.out k hk).2.2 e), fun k hk => ⟨by have := (HRQ.out k hk).1; have := hm2.size; omega, fun h => h.1.elim (HRQ.out k hk).2.1 (fun h => by have := (HRQ.out k hk).1; omega), (HRQ.out k hk).2.2⟩, HVO.out, htb0, HNX.out.2.1⟩
                have hsz12 := hm2.size
                have hx2 := (hm2.block X (by have := heap_lt HXQ.out; omega) hXt).trans HX1.out
                have HX2 := Lib.hid hx2
                have HM2 : Hid (Mod nil w wr2) := Lib.hid (HM1.out.new hm2 (fun k h => by have := HB.out; omega))
                obtain ⟨gb, L, y0, hyl, hlog, -, -⟩ := hy2.log
                have HEN := Lib.hid (logEntries L gb tb yN.l wr2 hlog HNX.out.2.1.bods (by have := HNX.out.2.1.few; omega))
                have hnA : yN.l.length = m := by rw [HNX.out.2.2.2, HE1.out.1]
                rw [hnA] at HEN
                have x0 := cell_of hx2 0
                have x2 := cell_of hx2 2
                have x3 := cell_of hx2 3
                simp only [List.getElem?_toArray, List.getElem?_cons_zero, List.getElem?_cons_succ] at x0 x2 x3
                clear hpost hy2 hm2 hlog hx2 hnA HOP
                go_wp2_with fail
                refine HEN.out.mono ?_
                rintro e wr3 ⟨p9, c9, rfl, hv9, hm9⟩
                have HW3 := Lib.hid (HW2.out.modNil hm9)
                have HM3 := Lib.hid (HM2.out.thenNil hm9)
                have HV9 := Lib.hid hv9
                have z0 := cell_kept x0 hm9 (heap_lt HX2.out) (not_nil _)
                have z2 := cell_kept x2 hm9 (heap_lt HX2.out) (not_nil _)
                have z3 := cell_kept x3 hm9 (heap_lt HX2.out) (not_nil _)
                have hs39 := hm9.size
                clear hv9 hm9 y0 hyl x0 x2 x3 HEN
                have hne : ((m : Int) == (m : Int) + 1) = false := by simp; omega
                have hne2 : decide ((m : Int) = (m : Int) + 1) = false := by simp; omega
                have HSM := Lib.hid (refSameEnts _ _ p9 q m c9 m c yN.l l wr3 HV9.out.read HW3.out.ents.read (by omega))
                rw [decide_eq_true HNX.out.2.2.2] at HSM
                go_wp2_with fail
                refine HSM.out.mono ?_
                rintro e wr4 ⟨rfl, hm10⟩
                have HW4 := Lib.hid (HW3.out.modNil hm10)
                have HM4 := Lib.hid (HM3.out.thenNil hm10)
                clear hm10 HSM hne hne2 z0 z2 z3
                go_wp2_with fail
                exact ⟨⟨i + 1, m, yb2, _, _, yN, l, q, c, by omega, by go_num, rfl, rfl, rfl, by omega, HNX.out.2.2.2 |> Lib.hid, HW4, HM4⟩, by simp [intOf]; omega⟩
              · obtain ⟨yN, hyN⟩ : ∃ yN : YS, YS.mk (y.s.grow (recOf ⟨(kk : Nat), eb⟩)) (dq.crash keep) (y.l ++ [⟨(kk : Nat), eb⟩]) = yN := ⟨_, rfl⟩
                have HNX : Hid (Good (dq.crash keep) 300 ∧ YP 300 150 yN ∧ yN.d = dq.crash keep ∧ yN.l = l ++ [⟨(kk : Nat), eb⟩]) := Lib.hid ⟨H4.out.1, by rw [← hyN]; exact h5, by rw [← hyN], by rw [← hyN, ← HYL.out]⟩
                clear h5 hyN H4
                have xk := cell_of HXQ.out 4
                have xk0 := cell_of HXQ.out 0
                have xk2 := cell_of HXQ.out 2
                have xk3 := cell_of HXQ.out 3
                simp only [List.getElem?_toArray, List.getElem?_cons_zero, List.getElem?_cons_succ] at xk xk0 xk2 xk3
                have HCR := Lib.hid (dtCrash FQ (· < B) tb db bl bm dq (.slice pk nk ck) keep wq HDTQ.out HRKQ.out (fun k hk h => by have := HFQ.out k h; omega) hkl)
                go_wp2_with fail
                refine HCR.out.mono ?_
                rintro e wr1 ⟨rfl, hdt1, hmc⟩
                have hx1 := (hmc.block X (heap_lt HXQ.out) (fun h => hXF h.1)).trans HXQ.out
                have HX1 := Lib.hid hx1
                have HE1 : Hid (IsEnts R wr1 (.slice q m c) m l) := Lib.hid (HEQ.out.mod hmc (fun k _ hk h => (HRQ.out k hk).2.1 h.1))
                have HM1 : Hid (Mod nil w wr1) := Lib.hid (HMQ.out.new hmc (fun k h => by have := HFQ.out k h.1; have := HB.out; omega))
                have HDT1 := Lib.hid hdt1
                have hs1 := hmc.size
                have ho := HNX.out.2.1.opens (by rw [HNX.out.2.2.1]; exact HNX.out.1)
                rw [HNX.out.2.2.1] at ho
                have HOP := Lib.hid (diaryOpen FQ tb db bl bm (dq.crash keep) wr1 hdt1 (by rw [ho]; exact HNX.out.2.1.pl.bod) (by rw [ho, HNX.out.2.1.pl.gen.2.2.2.2]; simp) (by rw [ho]; have h1 := HNX.out.2.1.lim.2.2.1; have h2 := HNX.out.2.1.pl.le; have h3 := HNX.out.2.1.pl.room.2; omega))
                have HO := Lib.hid ho
                clear hdt1 hmc hx1 ho xk xk0 xk2 xk3 HCR
                go_wp2_with fail
                refine HOP.out.mono ?_
                rintro e wr2 hpost
                obtain ⟨yb2, hyb2, rfl, hy2, hm2⟩ : ∃ yb2, wr1.heap.size ≤ yb2 ∧ e = .returned (.tuple #[.pointer (some ⟨yb2, 0, none⟩), .int .i64 0]) ∧ IsY (fun j => FQ j ∨ wr1.heap.size ≤ j) wr2 yb2 tb db bl bm yN ∧ Mod (· = tb) wr1 wr2 := by
                  rcases hpost with ⟨yb, h1, h2, h3, h4, h5⟩ | ⟨h1, -⟩
                  · refine ⟨yb, h1, h3, ?_, h5⟩
                    rw [HO.out, HNX.out.2.1.map, ← HNX.out.2.2.1] at h4
                    exact h4
                  · exact absurd ⟨by rw [HO.out]; exact HNX.out.2.1.pl.gen.2.2.2.1, by rw [HO.out]; exact HNX.out.2.1.full⟩ h1
                have HW2 : Hid (DV B (fun k => (FQ k ∨ wr1.heap.size ≤ k) ∧ k < wr2.heap.size) R wr2 yb2 tb db bl bm yN (.slice q m c) m l 300 150) := Lib.hid
                  ⟨hy2.mono (fun k hk h => ⟨h, hk⟩), fun k hk => ⟨hk.1.elim (fun h => (HFQ.out k h).1) (fun h => by have := heap_lt HXQ.out; omega), hk.2⟩, HE1.out.mod hm2 (fun k _ hk e => (HRQ.out k hk).2.2 e), fun k hk => ⟨by have := (HRQ.out k hk).1; have := hm2.size; omega, fun h => h.1.elim (HRQ.out k hk).2.1 (fun h => by have := (HRQ.out k hk).1; omega), (HRQ.out k hk).2.2⟩, HVO.out, htb0, HNX.out.2.1⟩
                have hsz12 := hm2.size
                have hx2 := (hm2.block X (by have := heap_lt HXQ.out; omega) hXt).trans HX1.out
                have HX2 := Lib.hid hx2
                have HM2 : Hid (Mod nil w wr2) := Lib.hid (HM1.out.new hm2 (fun k h => by have := HB.out; omega))
                obtain ⟨gb, L, y0, hyl, hlog, -, -⟩ := hy2.log
                have HEN := Lib.hid (logEntries L gb tb yN.l wr2 hlog HNX.out.2.1.bods (by have := HNX.out.2.1.few; omega))
                have hnA : yN.l.length = m + 1 := by rw [HNX.out.2.2.2, List.length_append, List.length_singleton, HE1.out.1]
                rw [hnA] at HEN
                have x0 := cell_of hx2 0
                have x2 := cell_of hx2 2
                have x3 := cell_of hx2 3
                simp only [List.getElem?_toArray, List.getElem?_cons_zero, List.getElem?_cons_succ] at x0 x2 x3
                clear hpost hy2 hm2 hlog hx2 hnA HOP
                go_wp2_with fail
                refine HEN.out.mono ?_
                rintro e wr3 ⟨p9, c9, rfl, hv9, hm9⟩
                have HW3 := Lib.hid (HW2.out.modNil hm9)
                have HM3 := Lib.hid (HM2.out.thenNil hm9)
                have HV9 := Lib.hid hv9
                have z0 := cell_kept x0 hm9 (heap_lt HX2.out) (not_nil _)
                have z2 := cell_kept x2 hm9 (heap_lt HX2.out) (not_nil _)
                have z3 := cell_kept x3 hm9 (heap_lt HX2.out) (not_nil _)
                have hs39 := hm9.size
                clear hv9 hm9 y0 hyl x0 x2 x3 HEN
                have heq : ((((m + 1 : Nat)) : Int) == (m : Int) + 1) = true := by simp
                have hrowe : IsRow (· < B) wr3 (.slice pb nb cb) (bys eb) := HRE.out wr3 HM3.out
                obtain ⟨g2, hg2⟩ : ∃ g2, wr3.heap.size = g2 := ⟨_, rfl⟩
                obtain ⟨p8, c8, w8, hrun8, hw8, hm8⟩ := HW3.out.push (e := ⟨((kk : Nat) : Int), eb⟩) hrowe (fun k hk => ⟨by have := heap_lt HX2.out; omega, fun h => by have := (HW3.out.own k h).1; omega, by omega, fun ho => by have := HVO.out k ho; omega⟩) hg2 (by have := heap_lt HX2.out; omega) (by omega) 33
                have HRUN := Lib.hid hrun8
                have HW8 := Lib.hid hw8
                have HM8 : Hid (Mod nil w w8) := Lib.hid (HM3.out.new hm8 (fun k h => by have := HB.out; have := HVO.out k h; omega))
                have HV98 : Hid (IsEns (fun k => wr2.heap.size ≤ k) w8 (.slice p9 (m + 1) c9) yN.l) := Lib.hid (HV9.out.read.mod hm8 (fun k _ hk ho => by have := (HRQ.out k (HEQ.out.own ho).1).1; have h' : wr2.heap.size ≤ k := hk; omega))
                have HSM := Lib.hid (refSameEnts _ _ p9 p8 (m + 1) c9 (m + 1) c8 yN.l (l ++ [⟨((kk : Nat) : Int), eb⟩]) w8 HV98.out HW8.out.ents.read (by omega))
                rw [decide_eq_true HNX.out.2.2.2] at HSM
                clear hrowe hrun8 hw8 hm8
                go_wp2_with (first | (at_builtin; refine wpList_append_run rfl _ _ _ _ rfl rfl rfl HRUN.out ?_))
                refine HSM.out.mono ?_
                rintro e wr4 ⟨rfl, hm10⟩
                have HW4 := Lib.hid (HW8.out.modNil hm10)
                have HM4 := Lib.hid (HM8.out.thenNil hm10)
                clear hm10 HSM heq z0 z2 z3
                go_wp2_with fail
                exact ⟨⟨i + 1, m + 1, yb2, _, _, yN, _, p8, c8, by omega, by go_num, rfl, rfl, rfl, by omega, HNX.out.2.2.2 |> Lib.hid, HW4, HM4⟩, by simp [intOf]; omega⟩
          · have hbad : entErr kz nb = 1 := by unfold entErr; rw [if_pos (by omega)]
            have hcall := diaryAdd_bad F (fun _ => True) yb tb db bl bm nb cb kz y pb wx HWX.out.yy (by unfold maxLen; omega) (by rw [hbad]; decide)
            rw [hbad] at hcall
            have HC := Lib.hid hcall
            clear hcall hkz hbad
            go_wp2_with fail
            refine HC.out.mono ?_
            rintro e w7 ⟨rfl, hm7⟩
            have HW7 := Lib.hid (HWX.out.modNil hm7)
            have HM7 := Lib.hid (HMX.out.thenNil hm7)
            clear hm7 HC u0 u1 u2 u3
            go_wp2_with fail
            exact ⟨⟨i + 1, m, yb, _, _, y, l, q, c, by omega, by go_num, rfl, rfl, rfl, by omega, HYL, HW7, HM7⟩, by simp [intOf]; omega⟩
        · have hkb0 : (kind == 0) = false := by simpa using hk0
          obtain ⟨dq, hdq⟩ : ∃ dq, y.d = dq := ⟨_, rfl⟩
          obtain ⟨wq, hwq⟩ : ∃ wq, wq = wx := ⟨_, rfl⟩
          subst hwq
          have HDTQ : Hid (IsDT F wq tb db bl bm dq) := Lib.hid (by rw [← hdq]; exact HWX.out.yy.dt)
          have HFQ : Hid (∀ k, F k → B ≤ k ∧ k < wq.heap.size) := Lib.hid HWX.out.own
          have hXF : ¬ F X := hXF0
          have HEQ : Hid (IsEnts R wq (.slice q m c) m l) := Lib.hid HWX.out.ents
          have HRQ : Hid (∀ k, R k → k < wq.heap.size ∧ ¬ F k ∧ k ≠ tb) := Lib.hid HWX.out.rown
          have HVO := Lib.hid HWX.out.vown
          have HXQ := HXX
          have HMQ := HMX
          have HRKQ := Lib.hid (HRK.out wq HMQ.out)
          have hcr := HWX.out.inv.crashed keep
          rw [hdq] at hcr
          obtain ⟨yN, hyN⟩ : ∃ yN : YS, YS.mk y.s (dq.crash keep) y.l = yN := ⟨_, rfl⟩
          have HNX : Hid (Good (dq.crash keep) 300 ∧ YP 300 150 yN ∧ yN.d = dq.crash keep ∧ yN.l = l) := Lib.hid ⟨hcr.1, by rw [← hyN]; exact hcr.2, by rw [← hyN], by rw [← hyN]; exact HYL.out⟩
          clear hdq hcr hyN u1 u2 u3 hXF0 hBx HSX HWX HMX HXX hk0 hk2
          go_upto_region 25 with (fail)
          clear u0
          have xk := cell_of HXQ.out 4
          have xk0 := cell_of HXQ.out 0
          have xk2 := cell_of HXQ.out 2
          have xk3 := cell_of HXQ.out 3
          simp only [List.getElem?_toArray, List.getElem?_cons_zero, List.getElem?_cons_succ] at xk xk0 xk2 xk3
          have HCR := Lib.hid (dtCrash F (· < B) tb db bl bm dq (.slice pk nk ck) keep wq HDTQ.out HRKQ.out (fun k hk h => by have := HFQ.out k h; omega) hkl)
          go_wp2_with fail
          refine HCR.out.mono ?_
          rintro e wr1 ⟨rfl, hdt1, hmc⟩
          have hx1 := (hmc.block X (heap_lt HXQ.out) (fun h => hXF h.1)).trans HXQ.out
          have HX1 := Lib.hid hx1
          have HE1 : Hid (IsEnts R wr1 (.slice q m c) m l) := Lib.hid (HEQ.out.mod hmc (fun k _ hk h => (HRQ.out k hk).2.1 h.1))
          have HM1 : Hid (Mod nil w wr1) := Lib.hid (HMQ.out.new hmc (fun k h => by have := HFQ.out k h.1; have := HB.out; omega))
          have HDT1 := Lib.hid hdt1
          have hs1 := hmc.size
          have ho := HNX.out.2.1.opens (by rw [HNX.out.2.2.1]; exact HNX.out.1)
          rw [HNX.out.2.2.1] at ho
          have HOP := Lib.hid (diaryOpen F tb db bl bm (dq.crash keep) wr1 hdt1 (by rw [ho]; exact HNX.out.2.1.pl.bod) (by rw [ho, HNX.out.2.1.pl.gen.2.2.2.2]; simp) (by rw [ho]; have h1 := HNX.out.2.1.lim.2.2.1; have h2 := HNX.out.2.1.pl.le; have h3 := HNX.out.2.1.pl.room.2; omega))
          have HO := Lib.hid ho
          clear hdt1 hmc hx1 ho xk xk0 xk2 xk3 HCR
          go_wp2_with fail
          refine HOP.out.mono ?_
          rintro e wr2 hpost
          obtain ⟨yb2, hyb2, rfl, hy2, hm2⟩ : ∃ yb2, wr1.heap.size ≤ yb2 ∧ e = .returned (.tuple #[.pointer (some ⟨yb2, 0, none⟩), .int .i64 0]) ∧ IsY (fun j => F j ∨ wr1.heap.size ≤ j) wr2 yb2 tb db bl bm yN ∧ Mod (· = tb) wr1 wr2 := by
            rcases hpost with ⟨yb, h1, h2, h3, h4, h5⟩ | ⟨h1, -⟩
            · refine ⟨yb, h1, h3, ?_, h5⟩
              rw [HO.out, HNX.out.2.1.map, ← HNX.out.2.2.1] at h4
              exact h4
            · exact absurd ⟨by rw [HO.out]; exact HNX.out.2.1.pl.gen.2.2.2.1, by rw [HO.out]; exact HNX.out.2.1.full⟩ h1
          have HW2 : Hid (DV B (fun k => (F k ∨ wr1.heap.size ≤ k) ∧ k < wr2.heap.size) R wr2 yb2 tb db bl bm yN (.slice q m c) m l 300 150) := Lib.hid
            ⟨hy2.mono (fun k hk h => ⟨h, hk⟩), fun k hk => ⟨hk.1.elim (fun h => (HFQ.out k h).1) (fun h => by have := heap_lt HXQ.out; omega), hk.2⟩, HE1.out.mod hm2 (fun k _ hk e => (HRQ.out k hk).2.2 e), fun k hk => ⟨by have := (HRQ.out k hk).1; have := hm2.size; omega, fun h => h.1.elim (HRQ.out k hk).2.1 (fun h => by have := (HRQ.out k hk).1; omega), (HRQ.out k hk).2.2⟩, HVO.out, htb0, HNX.out.2.1⟩
          have hsz12 := hm2.size
          have hx2 := (hm2.block X (by have := heap_lt HXQ.out; omega) hXt).trans HX1.out
          have HX2 := Lib.hid hx2
          have HM2 : Hid (Mod nil w wr2) := Lib.hid (HM1.out.new hm2 (fun k h => by have := HB.out; omega))
          obtain ⟨gb, L, y0, hyl, hlog, -, -⟩ := hy2.log
          have HEN := Lib.hid (logEntries L gb tb yN.l wr2 hlog HNX.out.2.1.bods (by have := HNX.out.2.1.few; omega))
          have hnA : yN.l.length = m := by rw [HNX.out.2.2.2, HE1.out.1]
          rw [hnA] at HEN
          have x0 := cell_of hx2 0
          have x2 := cell_of hx2 2
          have x3 := cell_of hx2 3
          simp only [List.getElem?_toArray, List.getElem?_cons_zero, List.getElem?_cons_succ] at x0 x2 x3
          clear hpost hy2 hm2 hlog hx2 hnA HOP
          go_wp2_with fail
          refine HEN.out.mono ?_
          rintro e wr3 ⟨p9, c9, rfl, hv9, hm9⟩
          have HW3 := Lib.hid (HW2.out.modNil hm9)
          have HM3 := Lib.hid (HM2.out.thenNil hm9)
          have HV9 := Lib.hid hv9
          have z0 := cell_kept x0 hm9 (heap_lt HX2.out) (not_nil _)
          have z2 := cell_kept x2 hm9 (heap_lt HX2.out) (not_nil _)
          have z3 := cell_kept x3 hm9 (heap_lt HX2.out) (not_nil _)
          have hs39 := hm9.size
          clear hv9 hm9 y0 hyl x0 x2 x3 HEN
          have hne : ((m : Int) == (m : Int) + 1) = false := by simp; omega
          have hne2 : decide ((m : Int) = (m : Int) + 1) = false := by simp; omega
          have HSM := Lib.hid (refSameEnts _ _ p9 q m c9 m c yN.l l wr3 HV9.out.read HW3.out.ents.read (by omega))
          rw [decide_eq_true HNX.out.2.2.2] at HSM
          go_wp2_with fail
          refine HSM.out.mono ?_
          rintro e wr4 ⟨rfl, hm10⟩
          have HW4 := Lib.hid (HW3.out.modNil hm10)
          have HM4 := Lib.hid (HM3.out.thenNil hm10)
          clear hm10 HSM hne hne2 z0 z2 z3
          go_wp2_with fail
          exact ⟨⟨i + 1, m, yb2, _, _, yN, l, q, c, by omega, by go_num, rfl, rfl, rfl, by omega, HNX.out.2.2.2 |> Lib.hid, HW4, HM4⟩, by simp [intOf]; omega⟩
    · obtain rfl : i = len := by omega
      go_wp2_with fail
      refine (yFirst wr).mono ?_
      rintro e w2 ⟨rfl, hm2⟩
      have HE := Lib.hid (HPOST.out _ w2 ⟨rfl, HMW.out.thenNil hm2⟩)
      clear hm2
      go_wp2_with fail
      exact HE.out
set_option maxRecDepth 100000 in
theorem walkDiaryLasts (v0 : Value) (W : World) (r0 : Rd W 53 v0) :
    Calls Tryz.prog 5 #[v0] W fun e w' => e = .returned (.bool true) ∧ Below W.heap.size W w' := by
  obtain ⟨p, len, cap, l, rfl, hll, hm, hl, hb⟩ := r0.opsY
  by_cases h60 : len ≤ 60 ∧ fewY l = true
  · exact (lawDLasts p len cap l W hl h60.1 hb h60.2).mono fun e w' ⟨h1, h2⟩ => ⟨h1, h2.below⟩
  · refine (lawDLasts_bad p len cap l W hl (by unfold maxLen at hm; omega) (fun o ho => ⟨(hb o ho).1, (hb o ho).2.1⟩) ?_).mono fun e w' ⟨h1, h2⟩ => ⟨h1, h2.below⟩
    cases hf : fewY l with
    | false => exact .inr rfl
    | true => exact .inl (by rcases Nat.lt_or_ge 60 len with h | h; exact h; exact absurd ⟨h, hf⟩ h60)
end Go.Proofs.YtjjcmdblohbneaaGreat

/- Package diary: a diary over its disk; Add. (Printed by wip/tools/gen_diary.py.) -/
import Derived.Test.YtjjcmdblohbneaaGreatLog
import Derived.Test.YtjjcmdblohbneaaGreatJAppend
import Derived.Test.YtjjcmdblohbneaaGreatJPlainC
namespace Go.Proofs.YtjjcmdblohbneaaGreat
open Go.RowKit
/-- a diary, said plainly: its journal, the disk, the entries -/
structure YS where
  s : JS
  d : DS
  l : List En
/-- an entry as a record -/
def recOf (e : En) : List UInt8 := UInt8.ofNat e.k.toNat :: e.b
def YS.add (y : YS) (e : En) : YS × Int :=
  if entErr e.k e.b.length ≠ 0 then (y, entErr e.k e.b.length) else
  if (y.s.appends y.d (recOf e)).2.2 = 0 then (⟨(y.s.appends y.d (recOf e)).1, (y.s.appends y.d (recOf e)).2.1, y.l ++ [e]⟩, 0) else
  (⟨(y.s.appends y.d (recOf e)).1, (y.s.appends y.d (recOf e)).2.1, y.l⟩, (y.s.appends y.d (recOf e)).2.2)
/-- a diary at block yb, by the table tb, over the disk db: all of its blocks (and the disk's) are in F -/
structure IsY (F : Nat → Prop) (w : World) (yb tb db bl bm : Nat) (y : YS) : Prop where
  ex : ∃ (gb jb : Nat) (J L : Nat → Prop), w.heap[yb]? = some (.cells #[.pointer (some ⟨gb, 0, none⟩), .pointer (some ⟨jb, 0, none⟩)] 43 (0, 0)) ∧ F yb ∧ ¬ yb = tb ∧
    IsJD J w jb tb db bl bm y.s y.d ∧ IsLog L w gb tb y.l ∧ (∀ k, J k → F k ∧ k ≠ tb ∧ ¬ k = yb ∧ ¬ L k) ∧ ∀ k, L k → F k ∧ ¬ k = tb ∧ ¬ k = yb
theorem IsJD.exact {F : Nat → Prop} {w : World} {jb tb db bl bm : Nat} {s : JS} {d : DS} (h : IsJD F w jb tb db bl bm s d) : IsJD (fun k => F k ∧ k ≠ tb ∧ k < w.heap.size) w jb tb db bl bm s d := by
  obtain ⟨S, C, h1, h2, h3, h4⟩ := h.ex
  exact ⟨h.tab, S, C, h1, h2, h3, fun k hk => ⟨h4 k hk, (h4 k hk).2⟩⟩
theorem IsY.mod {F T : Nat → Prop} {w w' : World} {yb tb db bl bm : Nat} {y : YS} (h : IsY F w yb tb db bl bm y) (m : Mod T w w') (hs : ∀ k, k < w.heap.size → (F k ∨ k = tb) → ¬ T k) : IsY F w' yb tb db bl bm y := by
  obtain ⟨gb, jb, J, L, h1, h2, h3, h4, h5, h6, h7⟩ := h.ex
  exact ⟨gb, jb, J, L, (m.block yb (heap_lt h1) (hs yb (heap_lt h1) (.inl h2))).trans h1, h2, h3, h4.mod m (fun k hk h => hs k hk (h.imp (fun h => (h6 k h).1) id)), h5.mod m (fun k hk h => hs k hk (.inl (h7 k h).1)), h6, h7⟩
theorem IsY.modNil {F : Nat → Prop} {w w' : World} {yb tb db bl bm : Nat} {y : YS} (h : IsY F w yb tb db bl bm y) (m : Mod nil w w') : IsY F w' yb tb db bl bm y := h.mod m (fun _ _ _ f => f)
theorem IsY.mono {F G : Nat → Prop} {w : World} {yb tb db bl bm : Nat} {y : YS} (h : IsY F w yb tb db bl bm y) (hs : ∀ k, k < w.heap.size → F k → G k) : IsY G w yb tb db bl bm y := by
  obtain ⟨gb, jb, J, L, h1, h2, h3, h4, h5, h6, h7⟩ := h.ex
  exact ⟨gb, jb, fun k => J k ∧ k < w.heap.size, fun k => L k ∧ k < w.heap.size, h1, hs yb (heap_lt h1) h2, h3, h4.mono (fun k hk h => ⟨h, hk⟩), h5.mono (fun k hk h => ⟨h, hk⟩), fun k hk => ⟨hs k hk.2 (h6 k hk.1).1, (h6 k hk.1).2.1, (h6 k hk.1).2.2.1, fun h => (h6 k hk.1).2.2.2 h.1⟩, fun k hk => ⟨hs k hk.2 (h7 k hk.1).1, (h7 k hk.1).2⟩⟩
theorem IsY.tab {F : Nat → Prop} {w : World} {yb tb db bl bm : Nat} {y : YS} (h : IsY F w yb tb db bl bm y) : IsTab w tb := by
  obtain ⟨gb, jb, J, L, h1, h2, h3, h4, h5, h6, h7⟩ := h.ex
  exact h4.tab
theorem IsY.dt {F : Nat → Prop} {w : World} {yb tb db bl bm : Nat} {y : YS} (h : IsY F w yb tb db bl bm y) : IsDT F w tb db bl bm y.d := by
  obtain ⟨gb, jb, J, L, h1, h2, h3, h4, h5, h6, h7⟩ := h.ex
  obtain ⟨ht, C, hc, hk⟩ := h4.dt
  exact ⟨ht, C, hc, fun k h => ⟨(h6 k (hk k h).1).1, (hk k h).2⟩⟩
set_option maxRecDepth 100000 in
set_option maxHeartbeats 4000000 in
theorem diaryAdd_bad (F T : Nat → Prop) (yb tb db bl bm nb c : Nat) (k : Int) (y : YS) (p : Option Addr) (w : World) (hy : IsY F w yb tb db bl bm y) (hn : nb ≤ maxLen) (hbad : entErr k nb ≠ 0) :
    Calls Tryz.prog 11 #[.pointer (some ⟨yb, 0, none⟩), .agg #[.int .i64 k, .slice p nb c]] w fun e w' => e = .returned (.int .i64 (entErr k nb)) ∧ Mod nil w w' := by
  refine (?_ : ∀ Post : Ending → World → Prop, Hid (∀ e w', (e = .returned (.int .i64 (entErr k nb)) ∧ Mod nil w w') → Post e w') → Calls Tryz.prog 11 #[.pointer (some ⟨yb, 0, none⟩), .agg #[.int .i64 k, .slice p nb c]] w Post) _ (Lib.hid (fun _ _ h => h))
  intro Post HPOST
  have HADD : Hid (∀ ch W, True → Calls Tryz.prog 38 #[.pointer (some ⟨ch, 0, none⟩), .agg #[.int .i64 k, .slice p nb c]] W fun e w' => e = .returned (.int .i64 (entErr k nb)) ∧ Mod nil W w') := Lib.hid (fun ch W _ => chainAdd_bad ch k p nb c W hn hbad)
  obtain ⟨r, hr⟩ : ∃ r, entErr k nb = r := ⟨_, rfl⟩
  rw [hr] at HADD HPOST hbad
  have hr0 : (r != 0) = true := by simpa using hbad
  clear hr hn
  obtain ⟨gb, jb, J, L, hy0, hFy, hyt, hjd, hlog, hJ, hL⟩ := hy.ex
  have HY0 := Lib.hid hy0
  have HFY := Lib.hid hFy
  have HYT := Lib.hid hyt
  have HJD0 := Lib.hid hjd
  have HLG0 := Lib.hid hlog
  have HJ := Lib.hid hJ
  have HL := Lib.hid hL
  have ht0 := hjd.tab
  have htl := ht0.lt
  have HT0 := Lib.hid ht0
  have hgl := hlog.lt
  have hyl := heap_lt hy0
  obtain ⟨C, E, cb, pl, cl, hg0, hch0, -, hC, -⟩ := hlog.ex
  have hgt : ¬ gb = tb := (hL gb hlog.own).2.1
  have hgy : ¬ gb = yb := (hL gb hlog.own).2.2
  have g0 := cell_of hg0 0
  have y0 := cell_of hy0 0
  have y1 := cell_of hy0 1
  simp only [List.getElem?_toArray, List.getElem?_cons_zero, List.getElem?_cons_succ] at g0 y0 y1
  have HG0 := Lib.hid g0
  have HY := Lib.hid y0
  have HY1 := Lib.hid y1
  obtain ⟨X, hX⟩ : ∃ X, w.heap.size = X := ⟨_, rfl⟩
  have HX := Lib.hid hX
  have hlX : gb < X ∧ yb < X ∧ tb < X := ⟨by omega, by omega, by omega⟩
  have HRX := Lib.hid hyt
  clear hg0 hch0 hC hX g0 y0 y1 hy0 hFy hjd hlog hJ hL ht0 htl hgl hyl hy hyt
  go_enter Tryz.func11, Tryz.ntmps11
  go_upto_region 1 with (fail)
  rw [HX.out]
  generalize hw1 : World.alloc w _ = w1
  have hx1 : w1.heap[X]? = some (.cells #[.int .i64 k, .slice p nb c] 36 (0, 0)) := by rw [← hw1, ← HX.out]; exact heap_alloc_new _ _
  have hm1 : Mod nil w w1 := by rw [← hw1]; exact (Mod.refl _ _).alloc _
  have HM1 := Lib.hid hm1
  have HX1 := Lib.hid hx1
  have HNEW : Hid (∀ W, Mod nil w1 W → Calls Tryz.prog 33 #[.pointer (some ⟨tb, 0, none⟩)] W fun e w' => ∃ cb, e = .returned (.pointer (some ⟨cb, 0, none⟩)) ∧ IsChain (fun k => w1.heap.size ≤ k) w' cb tb zeros32 0 ∧ Mod nil W w') := Lib.hid (fun W m => by
    refine (chainNew tb W).mono ?_
    rintro e w' ⟨cb, rfl, hc, hmm⟩
    exact ⟨cb, rfl, hc.mono (fun k _ h => Nat.le_trans m.size h), hmm⟩)
  have HK : Hid (∀ W, Mod (· = tb) w1 W → (fun w' => w'.cell? ⟨yb, 0, none⟩ = some (.pointer (some ⟨gb, 0, none⟩)) ∧ w'.cell? ⟨gb, 0, none⟩ = some (.pointer (some ⟨tb, 0, none⟩)) ∧ w'.cell? ⟨X, 0, none⟩ = some (.int .i64 k) ∧ w'.cell? ⟨X, 1, none⟩ = some (.slice p nb c)) W) := Lib.hid (fun W m => by
    have x0 := cell_of HX1.out 0
    have x1 := cell_of HX1.out 1
    simp only [List.getElem?_toArray, List.getElem?_cons_zero, List.getElem?_cons_succ] at x0 x1
    have hs := HM1.out.size
    exact ⟨cell_kept (cell_kept HY.out HM1.out (by have := HX.out; omega) (not_nil _)) m (by have := HX.out; omega) HRX.out, cell_kept (cell_kept HG0.out HM1.out (by have := HX.out; omega) (not_nil _)) m (by have := HX.out; omega) hgt, cell_kept x0 m (heap_lt HX1.out) (by omega), cell_kept x1 m (heap_lt HX1.out) (by omega)⟩)
  clear hw1 hx1 hm1
  refine region_till (fun w' => w'.cell? ⟨yb, 0, none⟩ = some (.pointer (some ⟨gb, 0, none⟩)) ∧ w'.cell? ⟨gb, 0, none⟩ = some (.pointer (some ⟨tb, 0, none⟩)) ∧ w'.cell? ⟨X, 0, none⟩ = some (.int .i64 k) ∧ w'.cell? ⟨X, 1, none⟩ = some (.slice p nb c)) 10 (by kernel_rfl) ?_
  refine till_free (i := 0) (v := ?_) rfl (by kernel_rfl) (by kernel_rfl) (by kernel_rfl) (by kernel_rfl) (fun _ _ _ h => h) (Or.inl ⟨by kernel_rfl, ?_⟩) (fun _ => HK.out _ (by (repeat (first | assumption | exact Mod.refl _ _ | refine Mod.drew ?_ | refine Mod.alloc ?_ _)))) ?_
  rotate_left
  · intro w _; (first | (go_simp; done) | (go_simp; with_reducible rfl))
  (try simp only [Act.put]); (try simp only [List.setIfInBounds_toArray])
  refine till_free (i := 1) (v := ?_) rfl (by kernel_rfl) (by kernel_rfl) (by kernel_rfl) (by kernel_rfl) (fun _ _ _ h => h) (Or.inl ⟨by kernel_rfl, ?_⟩) (fun _ => HK.out _ (by (repeat (first | assumption | exact Mod.refl _ _ | refine Mod.drew ?_ | refine Mod.alloc ?_ _)))) ?_
  rotate_left
  · intro w _; (first | (go_simp; done) | (go_simp; with_reducible rfl))
  (try simp only [Act.put]); (try simp only [List.setIfInBounds_toArray])
  refine till_free (i := 2) (v := ?_) rfl (by kernel_rfl) (by kernel_rfl) (by kernel_rfl) (by kernel_rfl) (fun _ _ _ h => h) (Or.inl ⟨by kernel_rfl, ?_⟩) (fun _ => HK.out _ (by (repeat (first | assumption | exact Mod.refl _ _ | refine Mod.drew ?_ | refine Mod.alloc ?_ _)))) ?_
  rotate_left
  · intro w _; (first | (go_simp; done) | (go_simp; with_reducible rfl))
  (try simp only [Act.put]); (try simp only [List.setIfInBounds_toArray])
  refine till_take (i := 3) (v := ?_) rfl (by kernel_rfl) (by kernel_rfl) (by kernel_rfl) (by kernel_rfl) (by kernel_rfl) (by kernel_rfl) (fun _ _ _ h => h) (Or.inl ⟨by kernel_rfl, ?_⟩) (HK.out _ (by (repeat (first | assumption | exact Mod.refl _ _ | refine Mod.drew ?_ | refine Mod.alloc ?_ _)))) ?_
  rotate_left
  · intro w hSw; (try dsimp only at hSw); (first | (go_simp; done) | (go_simp; with_reducible rfl))
  (try simp only [Act.put]); (try simp only [List.setIfInBounds_toArray])
  refine till_free (i := 4) (v := ?_) rfl (by kernel_rfl) (by kernel_rfl) (by kernel_rfl) (by kernel_rfl) (fun _ _ _ h => h) (Or.inl ⟨by kernel_rfl, ?_⟩) (fun _ => HK.out _ (by (repeat (first | assumption | exact Mod.refl _ _ | refine Mod.drew ?_ | refine Mod.alloc ?_ _)))) ?_
  rotate_left
  · intro w _; (first | (go_simp; done) | (go_simp; with_reducible rfl))
  (try simp only [Act.put]); (try simp only [List.setIfInBounds_toArray])
  refine till_free (i := 5) (v := ?_) rfl (by kernel_rfl) (by kernel_rfl) (by kernel_rfl) (by kernel_rfl) (fun _ _ _ h => h) (Or.inl ⟨by kernel_rfl, ?_⟩) (fun _ => HK.out _ (by (repeat (first | assumption | exact Mod.refl _ _ | refine Mod.drew ?_ | refine Mod.alloc ?_ _)))) ?_
  rotate_left
  · intro w _; (first | (go_simp; done) | (go_simp; with_reducible rfl))
  (try simp only [Act.put]); (try simp only [List.setIfInBounds_toArray])
  refine till_take (i := 6) (v := ?_) rfl (by kernel_rfl) (by kernel_rfl) (by kernel_rfl) (by kernel_rfl) (by kernel_rfl) (by kernel_rfl) (fun _ _ _ h => h) (Or.inl ⟨by kernel_rfl, ?_⟩) (HK.out _ (by (repeat (first | assumption | exact Mod.refl _ _ | refine Mod.drew ?_ | refine Mod.alloc ?_ _)))) ?_
  rotate_left
  · intro w hSw; (try dsimp only at hSw); (first | (go_simp; done) | (go_simp; with_reducible rfl))
  (try simp only [Act.put]); (try simp only [List.setIfInBounds_toArray])
  refine till_take (i := 8) (v := ?_) rfl (by kernel_rfl) (by kernel_rfl) (by kernel_rfl) (by kernel_rfl) (by kernel_rfl) (by kernel_rfl) (fun _ _ _ h => h) (Or.inl ⟨by kernel_rfl, ?_⟩) (HK.out _ (by (repeat (first | assumption | exact Mod.refl _ _ | refine Mod.drew ?_ | refine Mod.alloc ?_ _)))) ?_
  rotate_left
  · intro w hSw; (try dsimp only at hSw); (first | (go_simp; done) | (go_simp; with_reducible rfl))
  (try simp only [Act.put]); (try simp only [List.setIfInBounds_toArray])
  refine till_ready (rs := [7]) (by kernel_rfl) (by simp) ?_
  refine till_cons (i := 7) rfl (fun K hK => ?_) till_nil
  (try dsimp (config := { proj := false }) only [List.getElem_toArray, List.getElem_cons_succ, List.getElem_cons_zero])
  go_simp
  refine (HNEW.out _ ?_).mono ?_
  · (repeat (first | assumption | exact Mod.refl _ _ | refine Mod.drew ?_ | refine Mod.alloc ?_ _))
  rintro e w2 ⟨ch, rfl, hch2, hm2⟩
  have hm2' : Mod (· = tb) w1 w2 := (show Mod (· = tb) w1 _ from by (repeat (first | assumption | exact Mod.refl _ _ | refine Mod.drew ?_ | refine Mod.alloc ?_ _))).thenNil hm2
  have hm2n : Mod nil w1 w2 := (show Mod nil w1 _ from by (repeat (first | assumption | exact Mod.refl _ _ | refine Mod.drew ?_ | refine Mod.alloc ?_ _))).thenNil hm2
  refine hK.out _ _ (fun _ => HK.out _ (by (repeat (first | assumption | exact Mod.refl _ _ | refine Mod.drew ?_ | refine Mod.alloc ?_ _)))) ?_
  clear hK K
  (try simp only [Act.put, List.setIfInBounds_toArray, List.set_cons_zero, List.set_cons_succ])
  refine till_ready (rs := [9]) (by kernel_rfl) (by simp) ?_
  refine till_cons (i := 9) rfl (fun K hK => ?_) till_nil
  (try dsimp (config := { proj := false }) only [List.getElem_toArray, List.getElem_cons_succ, List.getElem_cons_zero])
  go_simp
  refine (HADD.out ch _ ?_).mono ?_
  · exact trivial
  rintro e w3 ⟨rfl, hm3⟩
  have hm3n : Mod nil w1 w3 := hm2n.thenNil ((show Mod nil w2 _ from by (repeat (first | assumption | exact Mod.refl _ _ | refine Mod.drew ?_ | refine Mod.alloc ?_ _))).thenNil hm3)
  have hm3' : Mod (· = tb) w1 w3 := hm3n.ofNil
  refine hK.out _ _ (fun _ => HK.out _ (by (repeat (first | assumption | exact Mod.refl _ _ | refine Mod.drew ?_ | refine Mod.alloc ?_ _)))) ?_
  clear hK K
  (try simp only [Act.put, List.setIfInBounds_toArray, List.set_cons_zero, List.set_cons_succ])
  refine till_ready (rs := [10]) (by kernel_rfl) (by simp) ?_
  refine till_cons (i := 10) rfl (fun K hK => ?_) till_nil
  (try dsimp (config := { proj := false }) only [List.getElem_toArray, List.getElem_cons_succ, List.getElem_cons_zero])
  go_simp
  refine hK.out _ _ (fun h => (by simp at h)) ?_
  clear hK K
  (try simp only [Act.put, List.setIfInBounds_toArray, List.set_cons_zero, List.set_cons_succ])
  refine till_done (by kernel_rfl) ?_ _
  have HE := Lib.hid (HPOST.out _ w3 ⟨rfl, HM1.out.thenNil hm3n⟩)
  clear hm2 hm2' hm2n hm3 hm3n hm3'
  go_wp2_with fail
  exact HE.out
theorem u8_one (x : UInt8) (w : World) (g : Nat) (hg : w.heap.size = g) : IsVec (fun k => w.heap.size ≤ k) (w.alloc (.cells #[.int .u8 x.toNat] 5)) 5 1 (.slice (some ⟨g, 0, none⟩) 1 1) 1 (bys [x]) := by
  subst hg
  exact ⟨⟨by simp [bys], .inr ⟨w.heap.size, 1, #[.int .u8 x.toNat], rfl, Nat.zero_le _, heap_alloc_new _ _, Nat.le_refl _, by unfold maxLen; omega, by simp, by simp [bys]⟩⟩, fun k hk => by simp [Value.ownBlock] at hk; omega⟩
set_option maxRecDepth 100000 in
set_option maxHeartbeats 4000000 in
theorem diaryAdd (F T : Nat → Prop) (yb tb db bl bm nb c k : Nat) (y : YS) (body : List UInt8) (p : Option Addr) (w : World) (hy : IsY F w yb tb db bl bm y) (hlim : y.s.Lim (y.d.lasts.length / 2)) (hrow : IsRow T w (.slice p nb c) (bys body)) (hT : ∀ j, T j → j < w.heap.size ∧ ¬ F j ∧ j ≠ tb)
    (hk : k ≤ 255) (hnb : nb ≤ 60000) (hll : y.l.length ≤ 1000000) :
    Calls Tryz.prog 11 #[.pointer (some ⟨yb, 0, none⟩), .agg #[.int .i64 (k : Nat), .slice p nb c]] w fun e w' => e = .returned (.int .i64 (y.add ⟨(k : Nat), body⟩).2) ∧ IsY (fun j => F j ∨ w.heap.size ≤ j) w' yb tb db bl bm (y.add ⟨(k : Nat), body⟩).1 ∧ Mod (fun j => F j ∨ j = tb) w w' := by
  refine (?_ : ∀ Post : Ending → World → Prop, Hid (∀ e w', (e = .returned (.int .i64 (y.add ⟨(k : Nat), body⟩).2) ∧ IsY (fun j => F j ∨ w.heap.size ≤ j) w' yb tb db bl bm (y.add ⟨(k : Nat), body⟩).1 ∧ Mod (fun j => F j ∨ j = tb) w w') → Post e w') → Calls Tryz.prog 11 #[.pointer (some ⟨yb, 0, none⟩), .agg #[.int .i64 (k : Nat), .slice p nb c]] w Post) _ (Lib.hid (fun _ _ h => h))
  intro Post HPOST
  have hbl : body.length = nb := by
    obtain ⟨_, _, h, _⟩ := hrow
    simp only [Value.slice.injEq, bys_length] at h
    exact h.2.1.symm
  have HBL := Lib.hid hbl
  have HTT := Lib.hid hT
  have HR0 := Lib.hid hrow
  have HLIM := Lib.hid hlim
  have HLL := Lib.hid hll
  clear hbl hT hrow hlim hll
  obtain ⟨gb, jb, J, L, hy0, hFy, hyt, hjd, hlog, hJ, hL⟩ := hy.ex
  have HY0 := Lib.hid hy0
  have HFY := Lib.hid hFy
  have HYT := Lib.hid hyt
  have HJD0 := Lib.hid hjd
  have HLG0 := Lib.hid hlog
  have HJ := Lib.hid hJ
  have HL := Lib.hid hL
  have ht0 := hjd.tab
  have htl := ht0.lt
  have HT0 := Lib.hid ht0
  have hgl := hlog.lt
  have hyl := heap_lt hy0
  obtain ⟨C, E, cb, pl, cl, hg0, hch0, -, hC, -⟩ := hlog.ex
  have hgt : ¬ gb = tb := (hL gb hlog.own).2.1
  have hgy : ¬ gb = yb := (hL gb hlog.own).2.2
  have g0 := cell_of hg0 0
  have y0 := cell_of hy0 0
  have y1 := cell_of hy0 1
  simp only [List.getElem?_toArray, List.getElem?_cons_zero, List.getElem?_cons_succ] at g0 y0 y1
  have HG0 := Lib.hid g0
  have HY := Lib.hid y0
  have HY1 := Lib.hid y1
  obtain ⟨X, hX⟩ : ∃ X, w.heap.size = X := ⟨_, rfl⟩
  have HX := Lib.hid hX
  have hlX : gb < X ∧ yb < X ∧ tb < X := ⟨by omega, by omega, by omega⟩
  have HRX := Lib.hid hyt
  clear hg0 hch0 hC hX g0 y0 y1 hy0 hFy hjd hlog hJ hL ht0 htl hgl hyl hy hyt
  go_enter Tryz.func11, Tryz.ntmps11
  go_upto_region 1 with (fail)
  rw [HX.out]
  generalize hw1 : World.alloc w _ = w1
  have hx1 : w1.heap[X]? = some (.cells #[.int .i64 (k : Nat), .slice p nb c] 36 (0, 0)) := by rw [← hw1, ← HX.out]; exact heap_alloc_new _ _
  have hm1 : Mod nil w w1 := by rw [← hw1]; exact (Mod.refl _ _).alloc _
  have HM1 := Lib.hid hm1
  have HX1 := Lib.hid hx1
  have HNEW : Hid (∀ W, Mod nil w1 W → Calls Tryz.prog 33 #[.pointer (some ⟨tb, 0, none⟩)] W fun e w' => ∃ cb, e = .returned (.pointer (some ⟨cb, 0, none⟩)) ∧ IsChain (fun k => w1.heap.size ≤ k) w' cb tb zeros32 0 ∧ Mod nil W w') := Lib.hid (fun W m => by
    refine (chainNew tb W).mono ?_
    rintro e w' ⟨cb, rfl, hc, hmm⟩
    exact ⟨cb, rfl, hc.mono (fun k _ h => Nat.le_trans m.size h), hmm⟩)
  have HK : Hid (∀ W, Mod (· = tb) w1 W → (fun w' => w'.cell? ⟨yb, 0, none⟩ = some (.pointer (some ⟨gb, 0, none⟩)) ∧ w'.cell? ⟨gb, 0, none⟩ = some (.pointer (some ⟨tb, 0, none⟩)) ∧ w'.cell? ⟨X, 0, none⟩ = some (.int .i64 (k : Nat)) ∧ w'.cell? ⟨X, 1, none⟩ = some (.slice p nb c)) W) := Lib.hid (fun W m => by
    have x0 := cell_of HX1.out 0
    have x1 := cell_of HX1.out 1
    simp only [List.getElem?_toArray, List.getElem?_cons_zero, List.getElem?_cons_succ] at x0 x1
    have hs := HM1.out.size
    exact ⟨cell_kept (cell_kept HY.out HM1.out (by have := HX.out; omega) (not_nil _)) m (by have := HX.out; omega) HRX.out, cell_kept (cell_kept HG0.out HM1.out (by have := HX.out; omega) (not_nil _)) m (by have := HX.out; omega) hgt, cell_kept x0 m (heap_lt HX1.out) (by omega), cell_kept x1 m (heap_lt HX1.out) (by omega)⟩)
  clear hw1 hx1 hm1
  refine region_till (fun w' => w'.cell? ⟨yb, 0, none⟩ = some (.pointer (some ⟨gb, 0, none⟩)) ∧ w'.cell? ⟨gb, 0, none⟩ = some (.pointer (some ⟨tb, 0, none⟩)) ∧ w'.cell? ⟨X, 0, none⟩ = some (.int .i64 (k : Nat)) ∧ w'.cell? ⟨X, 1, none⟩ = some (.slice p nb c)) 10 (by kernel_rfl) ?_
  refine till_free (i := 0) (v := ?_) rfl (by kernel_rfl) (by kernel_rfl) (by kernel_rfl) (by kernel_rfl) (fun _ _ _ h => h) (Or.inl ⟨by kernel_rfl, ?_⟩) (fun _ => HK.out _ (by (repeat (first | assumption | exact Mod.refl _ _ | refine Mod.drew ?_ | refine Mod.alloc ?_ _)))) ?_
  rotate_left
  · intro w _; (first | (go_simp; done) | (go_simp; with_reducible rfl))
  (try simp only [Act.put]); (try simp only [List.setIfInBounds_toArray])
  refine till_free (i := 1) (v := ?_) rfl (by kernel_rfl) (by kernel_rfl) (by kernel_rfl) (by kernel_rfl) (fun _ _ _ h => h) (Or.inl ⟨by kernel_rfl, ?_⟩) (fun _ => HK.out _ (by (repeat (first | assumption | exact Mod.refl _ _ | refine Mod.drew ?_ | refine Mod.alloc ?_ _)))) ?_
  rotate_left
  · intro w _; (first | (go_simp; done) | (go_simp; with_reducible rfl))
  (try simp only [Act.put]); (try simp only [List.setIfInBounds_toArray])
  refine till_free (i := 2) (v := ?_) rfl (by kernel_rfl) (by kernel_rfl) (by kernel_rfl) (by kernel_rfl) (fun _ _ _ h => h) (Or.inl ⟨by kernel_rfl, ?_⟩) (fun _ => HK.out _ (by (repeat (first | assumption | exact Mod.refl _ _ | refine Mod.drew ?_ | refine Mod.alloc ?_ _)))) ?_
  rotate_left
  · intro w _; (first | (go_simp; done) | (go_simp; with_reducible rfl))
  (try simp only [Act.put]); (try simp only [List.setIfInBounds_toArray])
  refine till_take (i := 3) (v := ?_) rfl (by kernel_rfl) (by kernel_rfl) (by kernel_rfl) (by kernel_rfl) (by kernel_rfl) (by kernel_rfl) (fun _ _ _ h => h) (Or.inl ⟨by kernel_rfl, ?_⟩) (HK.out _ (by (repeat (first | assumption | exact Mod.refl _ _ | refine Mod.drew ?_ | refine Mod.alloc ?_ _)))) ?_
  rotate_left
  · intro w hSw; (try dsimp only at hSw); (first | (go_simp; done) | (go_simp; with_reducible rfl))
  (try simp only [Act.put]); (try simp only [List.setIfInBounds_toArray])
  refine till_free (i := 4) (v := ?_) rfl (by kernel_rfl) (by kernel_rfl) (by kernel_rfl) (by kernel_rfl) (fun _ _ _ h => h) (Or.inl ⟨by kernel_rfl, ?_⟩) (fun _ => HK.out _ (by (repeat (first | assumption | exact Mod.refl _ _ | refine Mod.drew ?_ | refine Mod.alloc ?_ _)))) ?_
  rotate_left
  · intro w _; (first | (go_simp; done) | (go_simp; with_reducible rfl))
  (try simp only [Act.put]); (try simp only [List.setIfInBounds_toArray])
  refine till_free (i := 5) (v := ?_) rfl (by kernel_rfl) (by kernel_rfl) (by kernel_rfl) (by kernel_rfl) (fun _ _ _ h => h) (Or.inl ⟨by kernel_rfl, ?_⟩) (fun _ => HK.out _ (by (repeat (first | assumption | exact Mod.refl _ _ | refine Mod.drew ?_ | refine Mod.alloc ?_ _)))) ?_
  rotate_left
  · intro w _; (first | (go_simp; done) | (go_simp; with_reducible rfl))
  (try simp only [Act.put]); (try simp only [List.setIfInBounds_toArray])
  refine till_take (i := 6) (v := ?_) rfl (by kernel_rfl) (by kernel_rfl) (by kernel_rfl) (by kernel_rfl) (by kernel_rfl) (by kernel_rfl) (fun _ _ _ h => h) (Or.inl ⟨by kernel_rfl, ?_⟩) (HK.out _ (by (repeat (first | assumption | exact Mod.refl _ _ | refine Mod.drew ?_ | refine Mod.alloc ?_ _)))) ?_
  rotate_left
  · intro w hSw; (try dsimp only at hSw); (first | (go_simp; done) | (go_simp; with_reducible rfl))
  (try simp only [Act.put]); (try simp only [List.setIfInBounds_toArray])
  refine till_take (i := 8) (v := ?_) rfl (by kernel_rfl) (by kernel_rfl) (by kernel_rfl) (by kernel_rfl) (by kernel_rfl) (by kernel_rfl) (fun _ _ _ h => h) (Or.inl ⟨by kernel_rfl, ?_⟩) (HK.out _ (by (repeat (first | assumption | exact Mod.refl _ _ | refine Mod.drew ?_ | refine Mod.alloc ?_ _)))) ?_
  rotate_left
  · intro w hSw; (try dsimp only at hSw); (first | (go_simp; done) | (go_simp; with_reducible rfl))
  (try simp only [Act.put]); (try simp only [List.setIfInBounds_toArray])
  refine till_ready (rs := [7]) (by kernel_rfl) (by simp) ?_
  refine till_cons (i := 7) rfl (fun K hK => ?_) till_nil
  (try dsimp (config := { proj := false }) only [List.getElem_toArray, List.getElem_cons_succ, List.getElem_cons_zero])
  go_simp
  refine (HNEW.out _ ?_).mono ?_
  · (repeat (first | assumption | exact Mod.refl _ _ | refine Mod.drew ?_ | refine Mod.alloc ?_ _))
  rintro e w2 ⟨ch, rfl, hch2, hm2⟩
  have hm2' : Mod (· = tb) w1 w2 := (show Mod (· = tb) w1 _ from by (repeat (first | assumption | exact Mod.refl _ _ | refine Mod.drew ?_ | refine Mod.alloc ?_ _))).thenNil hm2
  have hm2n : Mod nil w1 w2 := (show Mod nil w1 _ from by (repeat (first | assumption | exact Mod.refl _ _ | refine Mod.drew ?_ | refine Mod.alloc ?_ _))).thenNil hm2
  refine hK.out _ _ (fun _ => HK.out _ (by (repeat (first | assumption | exact Mod.refl _ _ | refine Mod.drew ?_ | refine Mod.alloc ?_ _)))) ?_
  clear hK K
  (try simp only [Act.put, List.setIfInBounds_toArray, List.set_cons_zero, List.set_cons_succ])
  refine till_ready (rs := [9]) (by kernel_rfl) (by simp) ?_
  refine till_cons (i := 9) rfl (fun K hK => ?_) till_nil
  (try dsimp (config := { proj := false }) only [List.getElem_toArray, List.getElem_cons_succ, List.getElem_cons_zero])
  go_simp
  have HADD : Hid (∀ W, Mod nil w2 W → Calls Tryz.prog 38 #[.pointer (some ⟨ch, 0, none⟩), .agg #[.int .i64 (k : Nat), .slice p nb c]] W fun e w' => e = .returned (.int .i64 0) ∧ IsTab w' tb ∧ Mod (fun j => j = ch ∨ j = tb) W w') := Lib.hid (fun W m => by
    refine (chainAdd _ T ch tb 0 k nb c zeros32 body p W (hch2.modNil m) (HT0.out.mod (HM1.out.thenNil (hm2n.thenNil m)) (not_nil _)) (HR0.out.modNil (HM1.out.thenNil (hm2n.thenNil m))) (fun h => by have h1 : w1.heap.size ≤ tb := h; have := HM1.out.size; have := HX.out; omega) hk hnb (by omega)).mono ?_
    rintro e w' ⟨rfl, ht, -, hmm⟩
    exact ⟨rfl, ht, hmm⟩)
  refine (HADD.out _ ?_).mono ?_
  · (repeat (first | assumption | exact Mod.refl _ _ | refine Mod.drew ?_ | refine Mod.alloc ?_ _))
  rintro e w3 ⟨rfl, ht3, hm3⟩
  have hch : w1.heap.size ≤ ch := hch2.own
  have hm3' : Mod (· = tb) w1 w3 := hm2'.trans ((show Mod nil w2 _ from by (repeat (first | assumption | exact Mod.refl _ _ | refine Mod.drew ?_ | refine Mod.alloc ?_ _))).ofNil.trans hm3 (fun _ _ h => h)) (fun j hj h => by rcases h with h | h; omega; exact h)
  refine hK.out _ _ (fun _ => HK.out _ (by (repeat (first | assumption | exact Mod.refl _ _ | refine Mod.drew ?_ | refine Mod.alloc ?_ _)))) ?_
  clear hK K
  (try simp only [Act.put, List.setIfInBounds_toArray, List.set_cons_zero, List.set_cons_succ])
  refine till_ready (rs := [10]) (by kernel_rfl) (by simp) ?_
  refine till_cons (i := 10) rfl (fun K hK => ?_) till_nil
  (try dsimp (config := { proj := false }) only [List.getElem_toArray, List.getElem_cons_succ, List.getElem_cons_zero])
  go_simp
  refine hK.out _ _ (fun h => (by simp at h)) ?_
  clear hK K
  (try simp only [Act.put, List.setIfInBounds_toArray, List.set_cons_zero, List.set_cons_succ])
  refine till_done (by kernel_rfl) ?_ _
  have HM3 := Lib.hid hm3'
  have HX3 := Lib.hid ((hm3'.block X (heap_lt HX1.out) (by omega)).trans HX1.out)
  have HMW3 : Hid (Mod (· = tb) w w3) := Lib.hid (HM1.out.ofNil.trans hm3' (fun _ _ h => h))
  have HT3 := Lib.hid ht3
  have hX3 : X < w3.heap.size := heap_lt HX3.out
  have HJD3 : Hid (IsJD (fun j => J j ∧ j < X) w3 jb tb db bl bm y.s y.d) := Lib.hid (by
    have h := HJD0.out.mono (G := fun j => J j ∧ j < X) (fun j hj h => ⟨h, by have := HX.out; omega⟩)
    obtain ⟨S, C, h1, h2, h3, h4⟩ := h.ex
    exact ⟨HT3.out, S, C, h1.mod HMW3.out (fun j _ hs e => (h4 j (.inl hs)).2.1 e), h2.mod HMW3.out (fun j _ hs e => (h4 j (.inr hs)).2.1 e), h3, fun j hj => ⟨(h4 j hj).1, (h4 j hj).2.1, Nat.lt_of_lt_of_le (h4 j hj).2.2 HMW3.out.size⟩⟩)
  have HR3 : Hid (IsRow T w3 (.slice p nb c) (bys body)) := Lib.hid (HR0.out.mod HMW3.out (fun j _ hj e => (HTT.out j hj).2.2 e))
  have hw8 : IntKind.u8.wrap (k : Int) = ((UInt8.ofNat k).toNat : Int) := by rw [IntKind.wrap_u8]; simp
  obtain ⟨w4, hw4⟩ : ∃ w4, (w3.alloc (.cells #[.int .u8 (UInt8.ofNat k).toNat] 5)).drew = w4 := ⟨_, rfl⟩
  have hm4 : Mod nil w3 w4 := by rw [← hw4]; exact ((Mod.refl _ _).alloc _).drew
  have hv4 : IsVec (fun j => w3.heap.size ≤ j) w4 5 1 (.slice (some ⟨w3.heap.size, 0, none⟩) 1 1) 1 (bys [UInt8.ofNat k]) := by rw [← hw4]; exact (u8_one _ w3 _ rfl).modNil ((Mod.refl _ _).drew)
  obtain ⟨v8, w8, hrun8, hvec8, hmod8⟩ := bytes_append (l := [UInt8.ofNat k]) (m := body) 34 (by simpa using hv4) (HR3.out.modNil hm4) (by rw [HBL.out]; simp; omega)
  have hl8 : ([UInt8.ofNat k] ++ body).length = nb + 1 := by simp [HBL.out]
  rw [hl8] at hvec8
  obtain ⟨p8, c8, hv8e, hcap8, -⟩ := vecCap hvec8
  subst hv8e
  have hm48 : Mod nil w3 w8 := hm4.new hmod8 (fun j h => h)
  have hrd : IsRow (fun j => X < j ∧ j < w8.heap.size) w8 (.slice p8 (nb + 1) c8) (bys (recOf ⟨(k : Nat), body⟩)) := by
    have h := hvec8.row.here
    refine h.mono (fun j _ h => ⟨?_, h.2⟩)
    rcases h.1 with h1 | h1
    · have h1' : w3.heap.size ≤ j := h1; omega
    · have := hm4.size; have h1' : w4.heap.size ≤ j := h1; omega
  have HRD := Lib.hid hrd
  have HM8 := Lib.hid hm48
  have hmJ8 : Mod (fun j => (J j ∧ j < X) ∨ j = tb) w3 w8 := HM8.out.ofNil
  rw [← hw4] at hrun8
  have HAPP : Hid (∀ W, Mod nil w8 W → Calls Tryz.prog 39 #[.pointer (some ⟨jb, 0, none⟩), .slice p8 (nb + 1) c8] W fun e w' => e = .returned (.int .i64 (y.s.appends y.d (recOf ⟨(k : Nat), body⟩)).2.2) ∧ IsJD (fun j => (J j ∧ j < X) ∨ w8.heap.size ≤ j) w' jb tb db bl bm (y.s.appends y.d (recOf ⟨(k : Nat), body⟩)).1 (y.s.appends y.d (recOf ⟨(k : Nat), body⟩)).2.1 ∧ Mod (fun j => (J j ∧ j < X) ∨ j = tb) W w') := Lib.hid (fun W m => by
    refine (jAppend _ _ jb tb db bl bm y.s y.d p8 (nb + 1) c8 (recOf ⟨(k : Nat), body⟩) W (HJD3.out.modNil (HM8.out.thenNil m)) HLIM.out (HRD.out.modNil m) (fun j hj => ⟨Nat.lt_of_lt_of_le hj.2 m.size, fun h => by have := h.2; have := hj.1; omega, by have := hj.1; omega⟩) hcap8).mono ?_
    rintro e w' ⟨rfl, hj, hmm⟩
    exact ⟨rfl, hj.mono (fun j _ h => h.imp id (fun h => Nat.le_trans m.size h)), hmm⟩)
  obtain ⟨ER, hER⟩ : ∃ ER, (y.s.appends y.d (recOf ⟨(k : Nat), body⟩)).2.2 = ER := ⟨_, rfl⟩
  rw [hER] at HAPP
  have HER := Lib.hid hER
  have HEN : Hid (¬ entErr (k : Nat) nb ≠ 0) := Lib.hid (fun h => h (by unfold entErr; rw [if_neg (by omega), if_neg (by omega)]))
  clear HK
  have HK : Hid (∀ W, Mod (fun j => (J j ∧ j < X) ∨ j = tb) w3 W → (fun w' => w'.cell? ⟨yb, 1, none⟩ = some (.pointer (some ⟨jb, 0, none⟩)) ∧ w'.cell? ⟨X, 0, none⟩ = some (.int .i64 (k : Nat)) ∧ w'.cell? ⟨X, 1, none⟩ = some (.slice p nb c)) W) := Lib.hid (fun W m => by
    have x0 := cell_of HX3.out 0
    have x1 := cell_of HX3.out 1
    simp only [List.getElem?_toArray, List.getElem?_cons_zero, List.getElem?_cons_succ] at x0 x1
    have hJX : ¬ ((J X ∧ X < X) ∨ X = tb) := by omega
    exact ⟨cell_kept (cell_kept HY1.out HMW3.out (by have := HX.out; omega) HRX.out) m (by have := HMW3.out.size; have := HX.out; omega) (fun h => h.elim (fun h => (HJ.out yb h.1).2.2.1 rfl) HRX.out), cell_kept x0 m hX3 hJX, cell_kept x1 m hX3 hJX⟩)
  clear hm2 hm2' hm2n hch2 HADD hm3 hm3' ht3 hch hw4 hv4 hvec8 hmod8 hm48 hrd hm4 hl8 hER
  go_upto_region 4 with (fail)
  refine region_till (fun w' => w'.cell? ⟨yb, 1, none⟩ = some (.pointer (some ⟨jb, 0, none⟩)) ∧ w'.cell? ⟨X, 0, none⟩ = some (.int .i64 (k : Nat)) ∧ w'.cell? ⟨X, 1, none⟩ = some (.slice p nb c)) 12 (by kernel_rfl) ?_
  refine till_free (i := 0) (v := ?_) rfl (by kernel_rfl) (by kernel_rfl) (by kernel_rfl) (by kernel_rfl) (fun _ _ _ h => h) (Or.inl ⟨by kernel_rfl, ?_⟩) (fun _ => HK.out _ (by (repeat (first | assumption | exact Mod.refl _ _ | refine Mod.drew ?_ | refine Mod.alloc ?_ _)))) ?_
  rotate_left
  · intro w _; (first | (go_simp; done) | (go_simp; with_reducible rfl))
  (try simp only [Act.put]); (try simp only [List.setIfInBounds_toArray])
  refine till_free (i := 1) (v := ?_) rfl (by kernel_rfl) (by kernel_rfl) (by kernel_rfl) (by kernel_rfl) (fun _ _ _ h => h) (Or.inl ⟨by kernel_rfl, ?_⟩) (fun _ => HK.out _ (by (repeat (first | assumption | exact Mod.refl _ _ | refine Mod.drew ?_ | refine Mod.alloc ?_ _)))) ?_
  rotate_left
  · intro w _; (first | (go_simp; done) | (go_simp; with_reducible rfl))
  (try simp only [Act.put]); (try simp only [List.setIfInBounds_toArray])
  refine till_free (i := 2) (v := ?_) rfl (by kernel_rfl) (by kernel_rfl) (by kernel_rfl) (by kernel_rfl) (fun _ _ _ h => h) (Or.inl ⟨by kernel_rfl, ?_⟩) (fun _ => HK.out _ (by (repeat (first | assumption | exact Mod.refl _ _ | refine Mod.drew ?_ | refine Mod.alloc ?_ _)))) ?_
  rotate_left
  · intro w _; (first | (go_simp; done) | (go_simp; with_reducible rfl))
  (try simp only [Act.put]); (try simp only [List.setIfInBounds_toArray])
  refine till_take (i := 3) (v := ?_) rfl (by kernel_rfl) (by kernel_rfl) (by kernel_rfl) (by kernel_rfl) (by kernel_rfl) (by kernel_rfl) (fun _ _ _ h => h) (Or.inl ⟨by kernel_rfl, ?_⟩) (HK.out _ (by (repeat (first | assumption | exact Mod.refl _ _ | refine Mod.drew ?_ | refine Mod.alloc ?_ _)))) ?_
  rotate_left
  · intro w hSw; (try dsimp only at hSw); (first | (go_simp; done) | (go_simp; with_reducible rfl))
  (try simp only [Act.put]); (try simp only [List.setIfInBounds_toArray])
  refine till_free (i := 4) (v := ?_) rfl (by kernel_rfl) (by kernel_rfl) (by kernel_rfl) (by kernel_rfl) (fun _ _ _ h => h) (Or.inl ⟨by kernel_rfl, ?_⟩) (fun _ => HK.out _ (by (repeat (first | assumption | exact Mod.refl _ _ | refine Mod.drew ?_ | refine Mod.alloc ?_ _)))) ?_
  rotate_left
  · intro w _; (first | (go_simp; done) | (go_simp; with_reducible rfl))
  (try simp only [Act.put]); (try simp only [List.setIfInBounds_toArray])
  refine till_take (i := 5) (v := ?_) rfl (by kernel_rfl) (by kernel_rfl) (by kernel_rfl) (by kernel_rfl) (by kernel_rfl) (by kernel_rfl) (fun _ _ _ h => h) (Or.inl ⟨by kernel_rfl, ?_⟩) (HK.out _ (by (repeat (first | assumption | exact Mod.refl _ _ | refine Mod.drew ?_ | refine Mod.alloc ?_ _)))) ?_
  rotate_left
  · intro w hSw; (try dsimp only at hSw); (first | (go_simp; done) | (go_simp; with_reducible rfl))
  (try simp only [Act.put]); (try simp only [List.setIfInBounds_toArray])
  refine till_free (i := 6) (v := ?_) rfl (by kernel_rfl) (by kernel_rfl) (by kernel_rfl) (by kernel_rfl) (fun _ _ _ h => h) (Or.inl ⟨by kernel_rfl, ?_⟩) (fun _ => HK.out _ (by (repeat (first | assumption | exact Mod.refl _ _ | refine Mod.drew ?_ | refine Mod.alloc ?_ _)))) ?_
  rotate_left
  · intro w _; (first | (go_simp; done) | (go_simp; with_reducible rfl))
  (try simp only [Act.put]); (try simp only [List.setIfInBounds_toArray])
  refine till_free (i := 8) (v := ?_) rfl (by kernel_rfl) (by kernel_rfl) (by kernel_rfl) (by kernel_rfl) (fun _ _ _ h => h) (Or.inl ⟨by kernel_rfl, ?_⟩) (fun _ => HK.out _ (by (repeat (first | assumption | exact Mod.refl _ _ | refine Mod.drew ?_ | refine Mod.alloc ?_ _)))) ?_
  rotate_left
  · intro w _; (first | (go_simp; done) | (go_simp; with_reducible rfl))
  (try simp only [Act.put]); (try simp only [List.setIfInBounds_toArray])
  refine till_take (i := 9) (v := ?_) rfl (by kernel_rfl) (by kernel_rfl) (by kernel_rfl) (by kernel_rfl) (by kernel_rfl) (by kernel_rfl) (fun _ _ _ h => h) (Or.inl ⟨by kernel_rfl, ?_⟩) (HK.out _ (by (repeat (first | assumption | exact Mod.refl _ _ | refine Mod.drew ?_ | refine Mod.alloc ?_ _)))) ?_
  rotate_left
  · intro w hSw; (try dsimp only at hSw); (first | (go_simp; done) | (go_simp; with_reducible rfl))
  (try simp only [Act.put]); (try simp only [List.setIfInBounds_toArray])
  refine till_ready (rs := [7]) (by kernel_rfl) (by simp) ?_
  refine till_cons (i := 7) rfl (fun K hK => ?_) till_nil
  (try dsimp (config := { proj := false }) only [List.getElem_toArray, List.getElem_cons_succ, List.getElem_cons_zero])
  go_simp
  refine hK.out _ _ (fun _ => HK.out _ (by (repeat (first | assumption | exact Mod.refl _ _ | refine Mod.drew ?_ | refine Mod.alloc ?_ _)))) ?_
  clear hK K
  (try simp only [Act.put, List.setIfInBounds_toArray, List.set_cons_zero, List.set_cons_succ])
  refine till_ready (rs := [10]) (by kernel_rfl) (by simp) ?_
  refine till_cons (i := 10) rfl (fun K hK => ?_) till_nil
  (try dsimp (config := { proj := false }) only [List.getElem_toArray, List.getElem_cons_succ, List.getElem_cons_zero])
  refine step_append_run rfl _ _ _ _ rfl rfl rfl hrun8 ?_
  refine hK.out _ _ (fun _ => HK.out _ (by (repeat (first | assumption | exact Mod.refl _ _ | refine Mod.drew ?_ | refine Mod.alloc ?_ _)))) ?_
  clear hK K
  (try simp only [Act.put, List.setIfInBounds_toArray, List.set_cons_zero, List.set_cons_succ])
  refine till_ready (rs := [11]) (by kernel_rfl) (by simp) ?_
  refine till_cons (i := 11) rfl (fun K hK => ?_) till_nil
  (try dsimp (config := { proj := false }) only [List.getElem_toArray, List.getElem_cons_succ, List.getElem_cons_zero])
  go_simp
  refine (HAPP.out _ ?_).mono ?_
  · (repeat (first | assumption | exact Mod.refl _ _ | refine Mod.drew ?_ | refine Mod.alloc ?_ _))
  rintro e w5 ⟨rfl, hj5, hm5⟩
  have hm5' : Mod (fun j => (J j ∧ j < X) ∨ j = tb) w3 w5 := HM8.out.ofNil.trans ((show Mod nil w8 _ from by (repeat (first | assumption | exact Mod.refl _ _ | refine Mod.drew ?_ | refine Mod.alloc ?_ _))).ofNil.trans hm5 (fun _ _ h => h)) (fun _ _ h => h)
  refine hK.out _ _ (fun _ => HK.out _ (by (repeat (first | assumption | exact Mod.refl _ _ | refine Mod.drew ?_ | refine Mod.alloc ?_ _)))) ?_
  clear hK K
  (try simp only [Act.put, List.setIfInBounds_toArray, List.set_cons_zero, List.set_cons_succ])
  refine till_ready (rs := [12]) (by kernel_rfl) (by simp) ?_
  refine till_cons (i := 12) rfl (fun K hK => ?_) till_nil
  (try dsimp (config := { proj := false }) only [List.getElem_toArray, List.getElem_cons_succ, List.getElem_cons_zero])
  go_simp
  refine hK.out _ _ (fun h => (by simp at h)) ?_
  clear hK K
  (try simp only [Act.put, List.setIfInBounds_toArray, List.set_cons_zero, List.set_cons_succ])
  refine till_done (by kernel_rfl) ?_ _
  have HM5 := Lib.hid hm5'
  have hs5 := HM5.out.size
  have hs8 := HM8.out.size
  have HJD5 : Hid (IsJD (fun j => ((J j ∧ j < X) ∨ w8.heap.size ≤ j) ∧ j < w5.heap.size) w5 jb tb db bl bm (y.s.appends y.d (recOf ⟨(k : Nat), body⟩)).1 (y.s.appends y.d (recOf ⟨(k : Nat), body⟩)).2.1) := Lib.hid (hj5.mono (fun j hj h => ⟨h, hj⟩))
  have hLJ : ∀ j, L j → j < X → ¬ ((J j ∧ j < X) ∨ j = tb) := fun j hl _ h => by
    rcases h with h | h
    · exact (HJ.out j h.1).2.2.2 hl
    · exact (HL.out j hl).2.1 h
  have HMW5 : Hid (Mod (fun j => (J j ∧ j < X) ∨ j = tb) w w5) := Lib.hid ((HMW3.out.mono (fun _ _ h => .inr h)).trans HM5.out (fun _ _ h => h))
  have HLG5 : Hid (IsLog (fun j => L j ∧ j < X) w5 gb tb y.l) := Lib.hid ((HLG0.out.mono (T := fun j => L j ∧ j < X) (fun j hj h => ⟨h, by have := HX.out; omega⟩)).mod HMW5.out (fun j _ hj => hLJ j hj.1 hj.2))
  have HY5 : Hid (w5.heap[yb]? = _) := Lib.hid ((HMW5.out.block yb (by have := HX.out; omega) (fun h => h.elim (fun h => (HJ.out yb h.1).2.2.1 rfl) HRX.out)).trans HY0.out)
  have hX5 : X < w5.heap.size := by omega
  have HXX : Hid (w5.heap[X]? = _) := Lib.hid ((HM5.out.block X hX3 (by omega)).trans HX3.out)
  have HFJ : Hid (∀ j, ((J j ∧ j < X) ∨ w8.heap.size ≤ j) ∧ j < w5.heap.size → (F j ∨ w.heap.size ≤ j) ∧ j ≠ tb ∧ ¬ j = yb ∧ ¬ (L j ∧ j < X)) := Lib.hid (fun j hj => by
    rcases hj.1 with h | h
    · have := HJ.out j h.1; exact ⟨.inl this.1, this.2.1, this.2.2.1, fun hl => this.2.2.2 hl.1⟩
    · have := HX.out; exact ⟨.inr (by omega), by omega, by omega, by omega⟩)
  have HFM : Hid (Mod (fun j => F j ∨ j = tb) w w5) := Lib.hid (HMW5.out.mono (fun j _ h => h.imp (fun h => (HJ.out j h.1).1) id))
  have HT5 := Lib.hid HJD5.out.tab
  by_cases h0 : ER = 0
  · subst h0
    have HADD : Hid (y.add ⟨(k : Nat), body⟩ = (⟨(y.s.appends y.d (recOf ⟨(k : Nat), body⟩)).1, (y.s.appends y.d (recOf ⟨(k : Nat), body⟩)).2.1, y.l ++ [⟨(k : Nat), body⟩]⟩, 0)) := Lib.hid (by
      unfold YS.add
      simp only [HBL.out]
      rw [if_neg HEN.out, if_pos HER.out])
    have HKP : Hid (∀ W, Mod nil w5 W → Calls Tryz.prog 37 #[.pointer (some ⟨gb, 0, none⟩), .agg #[.int .i64 (k : Nat), .slice p nb c]] W fun e w' => e = .returned (.int .i64 0) ∧ IsTab w' tb ∧ IsLog (fun j => (L j ∧ j < X) ∨ w5.heap.size ≤ j) w' gb tb (y.l ++ [⟨(k : Nat), body⟩]) ∧ Mod (fun j => (L j ∧ j < X) ∨ j = tb) W w') := Lib.hid (fun W m => by
      refine (logKeep _ T gb tb k nb c y.l body p W (HLG5.out.modNil m) (HT5.out.mod m (not_nil _)) ((HR0.out.mod HMW5.out (fun j _ hj h => by rcases h with h | h; exact (HTT.out j hj).2.1 (HJ.out j h.1).1; exact (HTT.out j hj).2.2 h)).modNil m) (fun h => (HL.out tb h.1).2.1 rfl) (fun j hj => ⟨fun h => (HTT.out j hj).2.1 (HL.out j h.1).1, (HTT.out j hj).2.2⟩) hk hnb HLL.out).mono ?_
      rintro e w' ⟨rfl, ht, hl, hmm⟩
      exact ⟨rfl, ht, hl.mono (fun j _ h => h.imp id (fun h => Nat.le_trans m.size h)), hmm⟩)
    clear HK
    have HK : Hid (∀ W, Mod (fun j => (L j ∧ j < X) ∨ j = tb) w5 W → (fun w' => w'.cell? ⟨yb, 0, none⟩ = some (.pointer (some ⟨gb, 0, none⟩)) ∧ w'.cell? ⟨X, 0, none⟩ = some (.int .i64 (k : Nat)) ∧ w'.cell? ⟨X, 1, none⟩ = some (.slice p nb c)) W) := Lib.hid (fun W m => by
      have x0 := cell_of HXX.out 0
      have x1 := cell_of HXX.out 1
      have y0 := cell_of HY5.out 0
      simp only [List.getElem?_toArray, List.getElem?_cons_zero, List.getElem?_cons_succ] at x0 x1 y0
      have hLX : ¬ ((L X ∧ X < X) ∨ X = tb) := by omega
      exact ⟨cell_kept y0 m (heap_lt HY5.out) (fun h => h.elim (fun h => (HL.out yb h.1).2.2 rfl) HRX.out), cell_kept x0 m hX5 hLX, cell_kept x1 m hX5 hLX⟩)
    clear hj5 hm5 hm5' hLJ hs5 hs8 hrun8
    go_upto_region 7 with (fail)
    refine region_till (fun w' => w'.cell? ⟨yb, 0, none⟩ = some (.pointer (some ⟨gb, 0, none⟩)) ∧ w'.cell? ⟨X, 0, none⟩ = some (.int .i64 (k : Nat)) ∧ w'.cell? ⟨X, 1, none⟩ = some (.slice p nb c)) 6 (by kernel_rfl) ?_
    refine till_free (i := 0) (v := ?_) rfl (by kernel_rfl) (by kernel_rfl) (by kernel_rfl) (by kernel_rfl) (fun _ _ _ h => h) (Or.inl ⟨by kernel_rfl, ?_⟩) (fun _ => HK.out _ (by (repeat (first | assumption | exact Mod.refl _ _ | refine Mod.drew ?_ | refine Mod.alloc ?_ _)))) ?_
    rotate_left
    · intro w _; (first | (go_simp; done) | (go_simp; with_reducible rfl))
    (try simp only [Act.put]); (try simp only [List.setIfInBounds_toArray])
    refine till_free (i := 1) (v := ?_) rfl (by kernel_rfl) (by kernel_rfl) (by kernel_rfl) (by kernel_rfl) (fun _ _ _ h => h) (Or.inl ⟨by kernel_rfl, ?_⟩) (fun _ => HK.out _ (by (repeat (first | assumption | exact Mod.refl _ _ | refine Mod.drew ?_ | refine Mod.alloc ?_ _)))) ?_
    rotate_left
    · intro w _; (first | (go_simp; done) | (go_simp; with_reducible rfl))
    (try simp only [Act.put]); (try simp only [List.setIfInBounds_toArray])
    refine till_free (i := 2) (v := ?_) rfl (by kernel_rfl) (by kernel_rfl) (by kernel_rfl) (by kernel_rfl) (fun _ _ _ h => h) (Or.inl ⟨by kernel_rfl, ?_⟩) (fun _ => HK.out _ (by (repeat (first | assumption | exact Mod.refl _ _ | refine Mod.drew ?_ | refine Mod.alloc ?_ _)))) ?_
    rotate_left
    · intro w _; (first | (go_simp; done) | (go_simp; with_reducible rfl))
    (try simp only [Act.put]); (try simp only [List.setIfInBounds_toArray])
    refine till_take (i := 3) (v := ?_) rfl (by kernel_rfl) (by kernel_rfl) (by kernel_rfl) (by kernel_rfl) (by kernel_rfl) (by kernel_rfl) (fun _ _ _ h => h) (Or.inl ⟨by kernel_rfl, ?_⟩) (HK.out _ (by (repeat (first | assumption | exact Mod.refl _ _ | refine Mod.drew ?_ | refine Mod.alloc ?_ _)))) ?_
    rotate_left
    · intro w hSw; (try dsimp only at hSw); (first | (go_simp; done) | (go_simp; with_reducible rfl))
    (try simp only [Act.put]); (try simp only [List.setIfInBounds_toArray])
    refine till_take (i := 4) (v := ?_) rfl (by kernel_rfl) (by kernel_rfl) (by kernel_rfl) (by kernel_rfl) (by kernel_rfl) (by kernel_rfl) (fun _ _ _ h => h) (Or.inl ⟨by kernel_rfl, ?_⟩) (HK.out _ (by (repeat (first | assumption | exact Mod.refl _ _ | refine Mod.drew ?_ | refine Mod.alloc ?_ _)))) ?_
    rotate_left
    · intro w hSw; (try dsimp only at hSw); (first | (go_simp; done) | (go_simp; with_reducible rfl))
    (try simp only [Act.put]); (try simp only [List.setIfInBounds_toArray])
    refine till_ready (rs := [5]) (by kernel_rfl) (by simp) ?_
    refine till_cons (i := 5) rfl (fun K hK => ?_) till_nil
    (try dsimp (config := { proj := false }) only [List.getElem_toArray, List.getElem_cons_succ, List.getElem_cons_zero])
    go_simp
    refine (HKP.out _ ?_).mono ?_
    · (repeat (first | assumption | exact Mod.refl _ _ | refine Mod.drew ?_ | refine Mod.alloc ?_ _))
    rintro e w6 ⟨rfl, ht6, hl6, hm6⟩
    have hm6' : Mod (fun j => (L j ∧ j < X) ∨ j = tb) w5 w6 := (show Mod (fun j => (L j ∧ j < X) ∨ j = tb) w5 _ from by (repeat (first | assumption | exact Mod.refl _ _ | refine Mod.drew ?_ | refine Mod.alloc ?_ _))).trans hm6 (fun _ _ h => h)
    refine hK.out _ _ (fun _ => HK.out _ (by (repeat (first | assumption | exact Mod.refl _ _ | refine Mod.drew ?_ | refine Mod.alloc ?_ _)))) ?_
    clear hK K
    (try simp only [Act.put, List.setIfInBounds_toArray, List.set_cons_zero, List.set_cons_succ])
    refine till_ready (rs := [6]) (by kernel_rfl) (by simp) ?_
    refine till_cons (i := 6) rfl (fun K hK => ?_) till_nil
    (try dsimp (config := { proj := false }) only [List.getElem_toArray, List.getElem_cons_succ, List.getElem_cons_zero])
    go_simp
    refine hK.out _ _ (fun h => (by simp at h)) ?_
    clear hK K
    (try simp only [Act.put, List.setIfInBounds_toArray, List.set_cons_zero, List.set_cons_succ])
    refine till_done (by kernel_rfl) ?_ _
    have HE := Lib.hid (HPOST.out _ w6 ⟨by rw [HADD.out], by
      rw [HADD.out]
      refine ⟨gb, jb, fun j => ((J j ∧ j < X) ∨ w8.heap.size ≤ j) ∧ j < w5.heap.size, _, (hm6'.block yb (heap_lt HY5.out) (fun h => h.elim (fun h => (HL.out yb h.1).2.2 rfl) HRX.out)).trans HY5.out, .inl HFY.out, HYT.out, ?_, hl6, fun j hj => ?_, fun j hj => ?_⟩
      · obtain ⟨S, C', h1, h2, h3, h4⟩ := HJD5.out.ex
        exact ⟨ht6, S, C', h1.mod hm6' (fun j _ hs e => by rcases e with e | e; exact (HFJ.out j (h4 j (.inl hs)).1).2.2.2 e; exact (h4 j (.inl hs)).2.1 e), h2.mod hm6' (fun j _ hs e => by rcases e with e | e; exact (HFJ.out j (h4 j (.inr hs)).1).2.2.2 e; exact (h4 j (.inr hs)).2.1 e), h3, fun j hj => ⟨(h4 j hj).1, (h4 j hj).2.1, Nat.lt_of_lt_of_le (h4 j hj).2.2 hm6'.size⟩⟩
      · have h := HFJ.out j hj
        exact ⟨h.1, h.2.1, h.2.2.1, fun hl => hl.elim h.2.2.2 (fun hl => by have := hj.2; omega)⟩
      · rcases hj with h | h
        · exact ⟨.inl (HL.out j h.1).1, (HL.out j h.1).2⟩
        · have := HX.out; exact ⟨.inr (by omega), by omega, by omega⟩, HFM.out.trans (hm6'.mono (T := fun j => F j ∨ j = tb) (fun j _ h => h.imp (fun h => (HL.out j h.1).1) id)) (fun _ _ h => h)⟩)
    clear hm6 hm6' hl6 ht6
    go_wp2_with fail
    exact HE.out
  · have h0b : (ER != 0) = true := by simpa using h0
    have HADD : Hid (y.add ⟨(k : Nat), body⟩ = (⟨(y.s.appends y.d (recOf ⟨(k : Nat), body⟩)).1, (y.s.appends y.d (recOf ⟨(k : Nat), body⟩)).2.1, y.l⟩, ER)) := Lib.hid (by
      unfold YS.add
      simp only [HBL.out]
      rw [if_neg HEN.out, HER.out, if_neg h0])
    have HE := Lib.hid (HPOST.out _ w5 ⟨by rw [HADD.out], by
      rw [HADD.out]
      exact ⟨gb, jb, _, _, HY5.out, .inl HFY.out, HYT.out, HJD5.out, HLG5.out, HFJ.out, fun j hj => ⟨.inl (HL.out j hj.1).1, (HL.out j hj.1).2⟩⟩, HFM.out⟩)
    clear hj5 hm5 hm5' hLJ hs5 hs8 hrun8
    go_wp2_with fail
    exact HE.out
end Go.Proofs.YtjjcmdblohbneaaGreat

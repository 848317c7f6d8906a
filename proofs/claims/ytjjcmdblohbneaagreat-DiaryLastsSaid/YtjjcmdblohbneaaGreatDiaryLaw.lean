/- Package diary over a disk without a fuse, plain; cfllaw23.first. (Printed by wip/tools/gen_diarylaw.py.) -/
import Derived.Test.YtjjcmdblohbneaaGreatDiaryOpen
import Derived.Test.YtjjcmdblohbneaaGreatEntSame
import Derived.Test.YtjjcmdblohbneaaGreatBytesB
namespace Go.Proofs.YtjjcmdblohbneaaGreat
open Go.RowKit
structure YI (n N : Nat) (y : YS) : Prop where
  good : Good y.d n
  pend : y.d.pend = []
  hN : n / 2 = N
  pi : PI y.d.curs N y.s
  has : y.s.has = false
  recs : y.s.recs = y.l.map recOf
  ok : ∀ e ∈ y.l, 0 ≤ e.k ∧ e.k ≤ 255 ∧ e.b.length ≤ 59999
theorem YI.fresh (n N : Nat) (hN : n / 2 = N) (hn : n ≤ 8192) : YI n N ⟨JS.fresh (freshDisk n), freshDisk n, []⟩ :=
  ⟨freshDisk_good n, rfl, hN, freshDisk_PI n N hN hn, rfl, rfl, fun e he => by simp at he⟩
theorem YI.opens {n N : Nat} {y : YS} (h : YI n N y) : y.d.opens = y.s := h.pi.opens h.good h.hN
theorem YI.map {n N : Nat} {y : YS} (h : YI n N y) : y.s.recs.map enOf = y.l := by
  rw [h.recs, List.map_map]
  conv => rhs; rw [← List.map_id y.l]
  exact List.map_congr_left (fun e he => enOf_rec e (h.ok e he).1 (h.ok e he).2.1)
theorem YI.full (n N : Nat) (y : YS) (h : YI n N y) : ∀ r ∈ y.s.recs, r ≠ [] := fun r hr => by
  rw [h.recs] at hr
  obtain ⟨e, -, rfl⟩ := List.mem_map.1 hr
  exact List.cons_ne_nil _ _
theorem YI.half {n N : Nat} {y : YS} (h : YI n N y) : y.d.lasts.length / 2 = N := by rw [h.good.len, h.hN]
theorem YI.lim {n N : Nat} {y : YS} (h : YI n N y) : y.s.Lim (y.d.lasts.length / 2) := by rw [h.half]; exact h.pi.lim
theorem YI.len {n N : Nat} {y : YS} (h : YI n N y) : y.l.length = y.s.recs.length := by rw [h.recs, List.length_map]
theorem YI.few {n N : Nat} {y : YS} (h : YI n N y) : y.l.length ≤ 4096 := by
  rw [h.len]
  have := h.pi.lim.2.2.1; have := h.pi.lim.2.2.2; have := h.pi.room.2; omega
theorem YI.bods {n N : Nat} {y : YS} (h : YI n N y) : ∀ e ∈ y.l, e.b.length ≤ 60000 := fun e he => by have := (h.ok e he).2.2; omega
theorem recOf_length (e : En) : (recOf e).length = e.b.length + 1 := by simp [recOf]
theorem entErr_ok {k : Int} {n : Nat} (h0 : 0 ≤ k) (h1 : k ≤ 255) (hn : n ≤ 60000) : entErr k n = 0 := by unfold entErr; rw [if_neg (by omega), if_neg (by omega)]
theorem YI.add_ok {n N : Nat} {y : YS} (h : YI n N y) (e : En) (h0 : 0 ≤ e.k) (h1 : e.k ≤ 255) (hb : e.b.length ≤ 59999) (hr : y.s.at_ + sectorsF (e.b.length + 1) ≤ N) :
    ∃ y', y.add e = (y', 0) ∧ YI n N y' ∧ y'.l = y.l ++ [e] ∧ y'.s.at_ = y.s.at_ + sectorsF (e.b.length + 1) := by
  obtain ⟨d', hap, hg, hp, hi⟩ := h.pi.appends h.good h.hN (recOf e) (by rw [recOf_length]; omega) (by rw [recOf_length]; exact hr)
  refine ⟨⟨{ y.s with recs := y.s.recs ++ [recOf e], at_ := y.s.at_ + sectorsF (recOf e).length }, d', y.l ++ [e]⟩, ?_, ⟨hg, hp, h.hN, hi, h.has, ?_, ?_⟩, rfl, ?_⟩
  · unfold YS.add
    rw [entErr_ok h0 h1 (by omega), if_neg (by simp), hap, if_pos rfl]
  · simp [h.recs]
  · intro x hx
    rcases List.mem_append.1 hx with hx | hx
    · exact h.ok x hx
    · rw [List.mem_singleton.1 hx]; exact ⟨h0, h1, hb⟩
  · simp only [recOf_length]
theorem YI.add_full {n N : Nat} {y : YS} (h : YI n N y) (e : En) (h0 : 0 ≤ e.k) (h1 : e.k ≤ 255) (hb : e.b.length ≤ 59999) (hr : ¬ y.s.at_ + sectorsF (e.b.length + 1) ≤ N) : y.add e = (y, 12) := by
  have hap := h.pi.full h.good h.hN (recOf e) (by rw [recOf_length]; omega) (by rw [recOf_length]; exact hr)
  unfold YS.add
  rw [entErr_ok h0 h1 (by omega), if_neg (by simp), hap, if_neg (by simp)]
/-- Open over such a disk -/
theorem diaryOpen_ok {n N : Nat} {y : YS} (h : YI n N y) (F : Nat → Prop) (tb db bl bm : Nat) (w : World) (hdt : IsDT F w tb db bl bm y.d) :
    Calls Tryz.prog 10 #[.pointer (some ⟨tb, 0, none⟩), .pointer (some ⟨db, 0, none⟩)] w fun e w' => ∃ yb, w.heap.size ≤ yb ∧ e = .returned (.tuple #[.pointer (some ⟨yb, 0, none⟩), .int .i64 0]) ∧ IsY (fun j => F j ∨ w.heap.size ≤ j) w' yb tb db bl bm y ∧ Mod (· = tb) w w' := by
  have ho := h.opens
  have hb := h.pi.bod
  refine (diaryOpen F tb db bl bm y.d w hdt (by rw [ho]; exact hb.2) (by rw [ho]; exact hb.1) (by rw [ho, ← h.len]; have := h.few; omega)).mono ?_
  rintro e w' (⟨yb, h1, h2, h3, h4, h5⟩ | ⟨h1, -⟩)
  · refine ⟨yb, h1, h3, ?_, h5⟩
    rw [ho, h.map] at h4
    exact h4
  · exact absurd ⟨by rw [ho]; exact h.has, by rw [ho]; exact h.full⟩ h1
theorem IsY.log {F : Nat → Prop} {w : World} {yb tb db bl bm : Nat} {y : YS} (h : IsY F w yb tb db bl bm y) : ∃ gb L, w.cell? ⟨yb, 0, none⟩ = some (.pointer (some ⟨gb, 0, none⟩)) ∧ yb < w.heap.size ∧ IsLog L w gb tb y.l ∧ (∀ k, L k → F k) ∧ F yb := by
  obtain ⟨gb, jb, J, L, h1, h2, h3, h4, h5, h6, h7⟩ := h.ex
  have c0 := cell_of h1 0
  simp only [List.getElem?_toArray, List.getElem?_cons_zero] at c0
  exact ⟨gb, L, c0, heap_lt h1, h5, fun k hk => (h7 k hk).1, h2⟩
set_option maxRecDepth 100000 in
set_option maxHeartbeats 2000000 in
theorem yFirst (w : World) : Calls Tryz.prog 7 #[] w fun e w' => e = .returned (.bool true) ∧ Mod nil w w' := by
  refine (?_ : ∀ Post : Ending → World → Prop, Hid (∀ e w', (e = .returned (.bool true) ∧ Mod nil w w') → Post e w') → Calls Tryz.prog 7 #[] w Post) _ (Lib.hid (fun _ _ h => h))
  intro Post HPOST
  have hmk : ∀ W, (Instr.makeSlice 34 (.int .i64 32) (.int .i64 32)).run Tryz.prog W = .ok (.slice (some ⟨W.heap.size, 0, Option.none⟩) 32 32) (W.alloc (.cells (bys zeros32).toArray 5)) := fun W => by
    obtain ⟨i0, hi0, hz0, hz1, hz2⟩ := info_parts info_u8
    rw [zeros32, bys_replicate0]
    exact run_make_one 34 5 i0 _ 1 Tryz.underlying34 hi0 hz0 hz1 hz2 rfl 32 (by omega) (by unfold maxLen; omega) W
  have HMK := Lib.hid hmk
  clear hmk
  go_enter Tryz.func7, Tryz.ntmps7
  go_wp2_with fail
  refine (diskNew 8 w (by omega) (by omega)).mono ?_
  rintro e w1 ⟨db, bl, bm, C, rfl, hd1, hfoot, hm1⟩
  have HY0 : Hid (YI 8 4 ⟨JS.fresh (freshDisk 8), freshDisk 8, []⟩) := Lib.hid (YI.fresh 8 4 rfl (by omega))
  obtain ⟨d, hd⟩ : ∃ d, freshDisk 8 = d := ⟨_, rfl⟩
  rw [hd] at HY0 hd1
  clear hd
  go_wp2_with fail
  refine (shaNewTable w1).mono ?_
  rintro e w2 ⟨tb, rfl, ht2, htb, hm2⟩
  have HDT : Hid (IsDT (fun k => w.heap.size ≤ k) w2 tb db bl bm d) := Lib.hid (IsDT.of (hd1.here.modNil hm2) ht2 (fun k hk _ => by
    obtain ⟨vl, h1, _⟩ := hd1.lasts
    obtain ⟨vm, h4, _⟩ := hd1.pend
    have a1 := heap_lt hd1.obj
    have a2 := heap_lt h1
    have a3 := h4.lt
    have q1 := hfoot db (.inl rfl)
    have q2 := hfoot bl (.inr (.inl rfl))
    have q3 := hfoot bm (.inr (.inr (.inl rfl)))
    rcases hk with h | h | h | h
    · omega
    · omega
    · omega
    · have := h.2; have := hfoot k (.inr (.inr (.inr h.1))); omega))
  have HM2 : Hid (Mod nil w w2) := Lib.hid (hm1.thenNil hm2)
  have htb0 : w.heap.size ≤ tb := Nat.le_trans hm1.size htb
  clear hd1 hfoot hm1 ht2 hm2 htb
  go_wp2_with fail
  refine (diaryOpen_ok HY0.out _ tb db bl bm w2 HDT.out).mono ?_
  rintro e w4 ⟨yb, hyb, rfl, hy4, hm4⟩
  have HM4 : Hid (Mod nil w w4) := Lib.hid (HM2.out.new hm4 (fun k h => by rw [h]; exact htb0))
  obtain ⟨gb, L, y0, hyl, hlog, -, -⟩ := hy4.log
  have HENT : Hid (∀ W, Mod nil w4 W → Calls Tryz.prog 13 #[.pointer (some ⟨gb, 0, none⟩)] W fun e w' => ∃ p c, e = .returned (.slice p 0 c) ∧ Mod nil W w') := Lib.hid (fun W m => (logEntries L gb tb [] W (hlog.modNil m) (fun e he => by simp at he) (by simp)).mono (fun e w' ⟨p, c, h1, h2, h3⟩ => ⟨p, c, h1, h3⟩))
  have HLEN : Hid (∀ W, Mod nil w4 W → Calls Tryz.prog 18 #[.pointer (some ⟨gb, 0, none⟩)] W fun e w' => e = .returned (.int .i64 0) ∧ W = w') := Lib.hid (fun W m => logLen L gb tb [] W (hlog.modNil m))
  have HHD : Hid (∀ W, Mod nil w4 W → Calls Tryz.prog 17 #[.pointer (some ⟨gb, 0, none⟩)] W fun e w' => ∃ p c, e = .returned (.slice p 32 c) ∧ IsVec (fun k => W.heap.size ≤ k) w' 5 1 (.slice p 32 c) 32 (bys zeros32) ∧ Mod nil W w') := Lib.hid (fun W m => logHead L gb tb [] W (hlog.modNil m))
  have HK : Hid (∀ W, Mod nil w4 W → (fun w' => w'.cell? ⟨yb, 0, none⟩ = some (.pointer (some ⟨gb, 0, none⟩))) W) := Lib.hid (fun W m => cell_kept y0 m hyl (not_nil _))
  have HEND : Hid (∀ W, Mod nil w4 W → Post (.returned (.bool true)) W) := Lib.hid (fun W m => HPOST.out _ _ ⟨rfl, HM4.out.thenNil m⟩)
  have hmk := HMK.out
  clear hy4 hm4 hlog y0 hyl hyb
  go_upto_region 5 with (fail)
  refine wp_region_held_drew (S := (fun w' => w'.cell? ⟨yb, 0, none⟩ = some (.pointer (some ⟨gb, 0, none⟩)))) (by kernel_rfl) (HK.out _ (by (repeat (first | assumption | exact Mod.refl _ _ | refine Mod.drew ?_ | refine Mod.alloc ?_ _)))) (fun hHeld => ?_)
  refine wpAnyH_take (i := 0) (v := ?_) rfl (by kernel_rfl) (by kernel_rfl) (by kernel_rfl) (fun _ _ _ h => h) (Or.inl ⟨by kernel_rfl, ?_⟩) (by assumption) ?_
  rotate_left
  · intro w hSw; (try dsimp only at hSw); (first | (go_simp; done) | (go_simp; with_reducible rfl))
  (try simp only [Act.put, List.getElem_toArray, List.getElem_cons_succ, List.getElem_cons_zero, List.setIfInBounds_toArray, List.set_cons_succ, List.set_cons_zero])
  refine wpAnyH_take (i := 1) (v := ?_) rfl (by kernel_rfl) (by kernel_rfl) (by kernel_rfl) (fun _ _ _ h => h) (Or.inl ⟨by kernel_rfl, ?_⟩) (by assumption) ?_
  rotate_left
  · intro w hSw; (try dsimp only at hSw); (first | (go_simp; done) | (go_simp; with_reducible rfl))
  (try simp only [Act.put, List.getElem_toArray, List.getElem_cons_succ, List.getElem_cons_zero, List.setIfInBounds_toArray, List.set_cons_succ, List.set_cons_zero])
  refine wpAnyH_take (i := 2) (v := ?_) rfl (by kernel_rfl) (by kernel_rfl) (by kernel_rfl) (fun _ _ _ h => h) (Or.inl ⟨by kernel_rfl, ?_⟩) (by assumption) ?_
  rotate_left
  · intro w hSw; (try dsimp only at hSw); (first | (go_simp; done) | (go_simp; with_reducible rfl))
  (try simp only [Act.put, List.getElem_toArray, List.getElem_cons_succ, List.getElem_cons_zero, List.setIfInBounds_toArray, List.set_cons_succ, List.set_cons_zero])
  refine wpAnyH_take (i := 3) (v := ?_) rfl (by kernel_rfl) (by kernel_rfl) (by kernel_rfl) (fun _ _ _ h => h) (Or.inl ⟨by kernel_rfl, ?_⟩) (by assumption) ?_
  rotate_left
  · intro w hSw; (try dsimp only at hSw); (first | (go_simp; done) | (go_simp; with_reducible rfl))
  (try simp only [Act.put, List.getElem_toArray, List.getElem_cons_succ, List.getElem_cons_zero, List.setIfInBounds_toArray, List.set_cons_succ, List.set_cons_zero])
  refine wpAnyH_take (i := 4) (v := ?_) rfl (by kernel_rfl) (by kernel_rfl) (by kernel_rfl) (fun _ _ _ h => h) (Or.inl ⟨by kernel_rfl, ?_⟩) (by assumption) ?_
  rotate_left
  · intro w hSw; (try dsimp only at hSw); (first | (go_simp; done) | (go_simp; with_reducible rfl))
  (try simp only [Act.put, List.getElem_toArray, List.getElem_cons_succ, List.getElem_cons_zero, List.setIfInBounds_toArray, List.set_cons_succ, List.set_cons_zero])
  refine wpAnyH_take (i := 5) (v := ?_) rfl (by kernel_rfl) (by kernel_rfl) (by kernel_rfl) (fun _ _ _ h => h) (Or.inl ⟨by kernel_rfl, ?_⟩) (by assumption) ?_
  rotate_left
  · intro w hSw; (try dsimp only at hSw); (first | (go_simp; done) | (go_simp; with_reducible rfl))
  (try simp only [Act.put, List.getElem_toArray, List.getElem_cons_succ, List.getElem_cons_zero, List.setIfInBounds_toArray, List.set_cons_succ, List.set_cons_zero])
  refine wpAnyH_take (i := 6) (v := ?_) rfl (by kernel_rfl) (by kernel_rfl) (by kernel_rfl) (fun _ _ _ h => h) (Or.inl ⟨by kernel_rfl, ?_⟩) (by assumption) ?_
  rotate_left
  · intro w hSw; (try dsimp only at hSw); (first | (go_simp; done) | (go_simp; with_reducible rfl))
  (try simp only [Act.put, List.getElem_toArray, List.getElem_cons_succ, List.getElem_cons_zero, List.setIfInBounds_toArray, List.set_cons_succ, List.set_cons_zero])
  refine wpAnyH_take (i := 7) (v := ?_) rfl (by kernel_rfl) (by kernel_rfl) (by kernel_rfl) (fun _ _ _ h => h) (Or.inl ⟨by kernel_rfl, ?_⟩) (by assumption) ?_
  rotate_left
  · intro w hSw; (try dsimp only at hSw); (first | (go_simp; done) | (go_simp; with_reducible rfl))
  (try simp only [Act.put, List.getElem_toArray, List.getElem_cons_succ, List.getElem_cons_zero, List.setIfInBounds_toArray, List.set_cons_succ, List.set_cons_zero])
  refine wpAnyH_take (i := 8) (v := ?_) rfl (by kernel_rfl) (by kernel_rfl) (by kernel_rfl) (fun _ _ _ h => h) (Or.inl ⟨by kernel_rfl, ?_⟩) (by assumption) ?_
  rotate_left
  · intro w hSw; (try dsimp only at hSw); (first | (go_simp; done) | (go_simp; with_reducible rfl))
  (try simp only [Act.put, List.getElem_toArray, List.getElem_cons_succ, List.getElem_cons_zero, List.setIfInBounds_toArray, List.set_cons_succ, List.set_cons_zero])
  refine wpAnyH_take (i := 9) (v := ?_) rfl (by kernel_rfl) (by kernel_rfl) (by kernel_rfl) (fun _ _ _ h => h) (Or.inl ⟨by kernel_rfl, ?_⟩) (by assumption) ?_
  rotate_left
  · intro w hSw; (try dsimp only at hSw); (first | (go_simp; done) | (go_simp; with_reducible rfl))
  (try simp only [Act.put, List.getElem_toArray, List.getElem_cons_succ, List.getElem_cons_zero, List.setIfInBounds_toArray, List.set_cons_succ, List.set_cons_zero])
  refine wpAnyH_take (i := 10) (v := ?_) rfl (by kernel_rfl) (by kernel_rfl) (by kernel_rfl) (fun _ _ _ h => h) (Or.inl ⟨by kernel_rfl, ?_⟩) (by assumption) ?_
  rotate_left
  · intro w hSw; (try dsimp only at hSw); (first | (go_simp; done) | (go_simp; with_reducible rfl))
  (try simp only [Act.put, List.getElem_toArray, List.getElem_cons_succ, List.getElem_cons_zero, List.setIfInBounds_toArray, List.set_cons_succ, List.set_cons_zero])
  refine wpAnyH_ready (rs := [11]) (by kernel_rfl) (by simp) ?_
  refine AllReadyH.cons (i := 11) rfl (fun K hK => ?_) AllReadyH.nil
  (try dsimp (config := { proj := false }) only [List.getElem_toArray, List.getElem_cons_succ, List.getElem_cons_zero])
  go_simp
  refine (HENT.out _ ?_).mono ?_
  · (repeat (first | assumption | exact Mod.refl _ _ | refine Mod.drew ?_ | refine Mod.alloc ?_ _))
  rintro e wa ⟨pa, ca, rfl, hma⟩
  have hma' : Mod nil w4 wa := (show Mod nil w4 _ from by (repeat (first | assumption | exact Mod.refl _ _ | refine Mod.drew ?_ | refine Mod.alloc ?_ _))).thenNil hma
  refine hK.out _ _ (HK.out _ (by (repeat (first | assumption | exact Mod.refl _ _ | refine Mod.drew ?_ | refine Mod.alloc ?_ _)))) (fun hHeld => ?_)
  clear hK K
  (try simp only [Act.put, List.setIfInBounds_toArray, List.set_cons_zero, List.set_cons_succ])
  (try simp only [List.set_cons_succ, List.set_cons_zero])
  refine wpAnyH_take (i := 12) (v := ?_) rfl (by kernel_rfl) (by kernel_rfl) (by kernel_rfl) (fun _ _ _ h => h) (Or.inl ⟨by kernel_rfl, ?_⟩) (by assumption) ?_
  rotate_left
  · intro w hSw; (try dsimp only at hSw); (first | (go_simp; done) | (go_simp; with_reducible rfl))
  (try simp only [Act.put, List.getElem_toArray, List.getElem_cons_succ, List.getElem_cons_zero, List.setIfInBounds_toArray, List.set_cons_succ, List.set_cons_zero])
  refine wpAnyH_take (i := 13) (v := ?_) rfl (by kernel_rfl) (by kernel_rfl) (by kernel_rfl) (fun _ _ _ h => h) (Or.inl ⟨by kernel_rfl, ?_⟩) (by assumption) ?_
  rotate_left
  · intro w hSw; (try dsimp only at hSw); (first | (go_simp; done) | (go_simp; with_reducible rfl))
  (try simp only [Act.put, List.getElem_toArray, List.getElem_cons_succ, List.getElem_cons_zero, List.setIfInBounds_toArray, List.set_cons_succ, List.set_cons_zero])
  refine wpAnyH_take (i := 14) (v := ?_) rfl (by kernel_rfl) (by kernel_rfl) (by kernel_rfl) (fun _ _ _ h => h) (Or.inl ⟨by kernel_rfl, ?_⟩) (by assumption) ?_
  rotate_left
  · intro w hSw; (try dsimp only at hSw); (first | (go_simp; done) | (go_simp; with_reducible rfl))
  (try simp only [Act.put, List.getElem_toArray, List.getElem_cons_succ, List.getElem_cons_zero, List.setIfInBounds_toArray, List.set_cons_succ, List.set_cons_zero])
  refine wpAnyH_take (i := 15) (v := ?_) rfl (by kernel_rfl) (by kernel_rfl) (by kernel_rfl) (fun _ _ _ h => h) (Or.inl ⟨by kernel_rfl, ?_⟩) (by assumption) ?_
  rotate_left
  · intro w hSw; (try dsimp only at hSw); (first | (go_simp; done) | (go_simp; with_reducible rfl))
  (try simp only [Act.put, List.getElem_toArray, List.getElem_cons_succ, List.getElem_cons_zero, List.setIfInBounds_toArray, List.set_cons_succ, List.set_cons_zero])
  refine wpAnyH_take (i := 16) (v := ?_) rfl (by kernel_rfl) (by kernel_rfl) (by kernel_rfl) (fun _ _ _ h => h) (Or.inl ⟨by kernel_rfl, ?_⟩) (by assumption) ?_
  rotate_left
  · intro w hSw; (try dsimp only at hSw); (first | (go_simp; done) | (go_simp; with_reducible rfl))
  (try simp only [Act.put, List.getElem_toArray, List.getElem_cons_succ, List.getElem_cons_zero, List.setIfInBounds_toArray, List.set_cons_succ, List.set_cons_zero])
  refine wpAnyH_take (i := 17) (v := ?_) rfl (by kernel_rfl) (by kernel_rfl) (by kernel_rfl) (fun _ _ _ h => h) (Or.inl ⟨by kernel_rfl, ?_⟩) (by assumption) ?_
  rotate_left
  · intro w hSw; (try dsimp only at hSw); (first | (go_simp; done) | (go_simp; with_reducible rfl))
  (try simp only [Act.put, List.getElem_toArray, List.getElem_cons_succ, List.getElem_cons_zero, List.setIfInBounds_toArray, List.set_cons_succ, List.set_cons_zero])
  refine wpAnyH_take (i := 18) (v := ?_) rfl (by kernel_rfl) (by kernel_rfl) (by kernel_rfl) (fun _ _ _ h => h) (Or.inl ⟨by kernel_rfl, ?_⟩) (by assumption) ?_
  rotate_left
  · intro w hSw; (try dsimp only at hSw); (first | (go_simp; done) | (go_simp; with_reducible rfl))
  (try simp only [Act.put, List.getElem_toArray, List.getElem_cons_succ, List.getElem_cons_zero, List.setIfInBounds_toArray, List.set_cons_succ, List.set_cons_zero])
  refine wpAnyH_take (i := 19) (v := ?_) rfl (by kernel_rfl) (by kernel_rfl) (by kernel_rfl) (fun _ _ _ h => h) (Or.inl ⟨by kernel_rfl, ?_⟩) (by assumption) ?_
  rotate_left
  · intro w hSw; (try dsimp only at hSw); (first | (go_simp; done) | (go_simp; with_reducible rfl))
  (try simp only [Act.put, List.getElem_toArray, List.getElem_cons_succ, List.getElem_cons_zero, List.setIfInBounds_toArray, List.set_cons_succ, List.set_cons_zero])
  refine wpAnyH_ready (rs := [20]) (by kernel_rfl) (by simp) ?_
  refine AllReadyH.cons (i := 20) rfl (fun K hK => ?_) AllReadyH.nil
  (try dsimp (config := { proj := false }) only [List.getElem_toArray, List.getElem_cons_succ, List.getElem_cons_zero])
  go_simp
  refine (HLEN.out _ ?_).mono ?_
  · (repeat (first | assumption | exact Mod.refl _ _ | refine Mod.drew ?_ | refine Mod.alloc ?_ _))
  rintro e w' ⟨rfl, rfl⟩
  refine hK.out _ _ (HK.out _ (by (repeat (first | assumption | exact Mod.refl _ _ | refine Mod.drew ?_ | refine Mod.alloc ?_ _)))) (fun hHeld => ?_)
  clear hK K
  (try simp only [Act.put, List.setIfInBounds_toArray, List.set_cons_zero, List.set_cons_succ])
  (try simp only [List.set_cons_succ, List.set_cons_zero])
  refine wpAnyH_take (i := 21) (v := ?_) rfl (by kernel_rfl) (by kernel_rfl) (by kernel_rfl) (fun _ _ _ h => h) (Or.inl ⟨by kernel_rfl, ?_⟩) (by assumption) ?_
  rotate_left
  · intro w hSw; (try dsimp only at hSw); (first | (go_simp; done) | (go_simp; with_reducible rfl))
  (try simp only [Act.put, List.getElem_toArray, List.getElem_cons_succ, List.getElem_cons_zero, List.setIfInBounds_toArray, List.set_cons_succ, List.set_cons_zero])
  refine wpAnyH_take (i := 22) (v := ?_) rfl (by kernel_rfl) (by kernel_rfl) (by kernel_rfl) (fun _ _ _ h => h) (Or.inl ⟨by kernel_rfl, ?_⟩) (by assumption) ?_
  rotate_left
  · intro w hSw; (try dsimp only at hSw); (first | (go_simp; done) | (go_simp; with_reducible rfl))
  (try simp only [Act.put, List.getElem_toArray, List.getElem_cons_succ, List.getElem_cons_zero, List.setIfInBounds_toArray, List.set_cons_succ, List.set_cons_zero])
  refine wpAnyH_take (i := 23) (v := ?_) rfl (by kernel_rfl) (by kernel_rfl) (by kernel_rfl) (fun _ _ _ h => h) (Or.inl ⟨by kernel_rfl, ?_⟩) (by assumption) ?_
  rotate_left
  · intro w hSw; (try dsimp only at hSw); (first | (go_simp; done) | (go_simp; with_reducible rfl))
  (try simp only [Act.put, List.getElem_toArray, List.getElem_cons_succ, List.getElem_cons_zero, List.setIfInBounds_toArray, List.set_cons_succ, List.set_cons_zero])
  refine wpAnyH_take (i := 24) (v := ?_) rfl (by kernel_rfl) (by kernel_rfl) (by kernel_rfl) (fun _ _ _ h => h) (Or.inl ⟨by kernel_rfl, ?_⟩) (by assumption) ?_
  rotate_left
  · intro w hSw; (try dsimp only at hSw); (first | (go_simp; done) | (go_simp; with_reducible rfl))
  (try simp only [Act.put, List.getElem_toArray, List.getElem_cons_succ, List.getElem_cons_zero, List.setIfInBounds_toArray, List.set_cons_succ, List.set_cons_zero])
  refine wpAnyH_take (i := 25) (v := ?_) rfl (by kernel_rfl) (by kernel_rfl) (by kernel_rfl) (fun _ _ _ h => h) (Or.inl ⟨by kernel_rfl, ?_⟩) (by assumption) ?_
  rotate_left
  · intro w hSw; (try dsimp only at hSw); (first | (go_simp; done) | (go_simp; with_reducible rfl))
  (try simp only [Act.put, List.getElem_toArray, List.getElem_cons_succ, List.getElem_cons_zero, List.setIfInBounds_toArray, List.set_cons_succ, List.set_cons_zero])
  refine wpAnyH_take (i := 26) (v := ?_) rfl (by kernel_rfl) (by kernel_rfl) (by kernel_rfl) (fun _ _ _ h => h) (Or.inl ⟨by kernel_rfl, ?_⟩) (by assumption) ?_
  rotate_left
  · intro w hSw; (try dsimp only at hSw); (first | (go_simp; done) | (go_simp; with_reducible rfl))
  (try simp only [Act.put, List.getElem_toArray, List.getElem_cons_succ, List.getElem_cons_zero, List.setIfInBounds_toArray, List.set_cons_succ, List.set_cons_zero])
  refine wpAnyH_take (i := 27) (v := ?_) rfl (by kernel_rfl) (by kernel_rfl) (by kernel_rfl) (fun _ _ _ h => h) (Or.inl ⟨by kernel_rfl, ?_⟩) (by assumption) ?_
  rotate_left
  · intro w hSw; (try dsimp only at hSw); (first | (go_simp; done) | (go_simp; with_reducible rfl))
  (try simp only [Act.put, List.getElem_toArray, List.getElem_cons_succ, List.getElem_cons_zero, List.setIfInBounds_toArray, List.set_cons_succ, List.set_cons_zero])
  refine wpAnyH_ready (rs := [28, 29]) (by kernel_rfl) (by simp) ?_
  refine AllReadyH.cons (i := 28) rfl (fun K hK => ?_) ?_
  · (try dsimp (config := { proj := false }) only [List.getElem_toArray, List.getElem_cons_succ, List.getElem_cons_zero])
    go_simp
    refine (HHD.out _ ?_).mono ?_
    · (repeat (first | assumption | exact Mod.refl _ _ | refine Mod.drew ?_ | refine Mod.alloc ?_ _))
    rintro e wb ⟨pb, cb, rfl, hvb, hmb⟩
    have hmb' : Mod nil w4 wb := (show Mod nil w4 _ from by (repeat (first | assumption | exact Mod.refl _ _ | refine Mod.drew ?_ | refine Mod.alloc ?_ _))).thenNil hmb
    refine hK.out _ _ (HK.out _ (by (repeat (first | assumption | exact Mod.refl _ _ | refine Mod.drew ?_ | refine Mod.alloc ?_ _)))) (fun hHeld => ?_)
    clear hK K
    (try simp only [Act.put, List.setIfInBounds_toArray, List.set_cons_zero, List.set_cons_succ])
    (try simp only [List.set_cons_succ, List.set_cons_zero])
    refine wpAnyH_ready (rs := [29]) (by kernel_rfl) (by simp) ?_
    refine AllReadyH.cons (i := 29) rfl (fun K hK => ?_) AllReadyH.nil
    (try dsimp (config := { proj := false }) only [List.getElem_toArray, List.getElem_cons_succ, List.getElem_cons_zero])
    go_simp
    generalize hwz : World.alloc _ _ = wz
    have hmz : Mod nil w4 wz := by rw [← hwz]; exact (show Mod nil w4 _ from by (repeat (first | assumption | exact Mod.refl _ _ | refine Mod.drew ?_ | refine Mod.alloc ?_ _)))
    have hz : IsRow (fun _ => True) wz (.slice (some ⟨wb.heap.size, 0, none⟩) 32 32) (bys zeros32) := by rw [← hwz]; exact IsRow.ofBlock (S := fun _ => True) (heap_alloc_new _ _) trivial 32 32 (by simp [bys, zeros32])
    have hvv := hvb.row.modNil (show Mod nil wb wz from by rw [← hwz]; (repeat (first | assumption | exact Mod.refl _ _ | refine Mod.drew ?_ | refine Mod.alloc ?_ _)))
    clear hwz
    refine hK.out _ _ (HK.out _ (by (repeat (first | assumption | exact Mod.refl _ _ | refine Mod.drew ?_ | refine Mod.alloc ?_ _)))) (fun hHeld => ?_)
    clear hK K
    (try simp only [Act.put, List.setIfInBounds_toArray, List.set_cons_zero, List.set_cons_succ])
    (try simp only [List.set_cons_succ, List.set_cons_zero])
    refine wpAnyH_ready (rs := [30]) (by kernel_rfl) (by simp) ?_
    refine AllReadyH.cons (i := 30) rfl (fun K hK => ?_) AllReadyH.nil
    (try dsimp (config := { proj := false }) only [List.getElem_toArray, List.getElem_cons_succ, List.getElem_cons_zero])
    go_simp
    refine (refBytesW (fun _ => True) (fun _ => True) _ _ zeros32 zeros32 _ ?_ ?_).mono ?_
    · first | exact (hvv.mono (fun _ _ _ => trivial)).modNil (by (repeat (first | assumption | exact Mod.refl _ _ | refine Mod.drew ?_ | refine Mod.alloc ?_ _))) | exact (hvb.row.mono (fun _ _ _ => trivial)).modNil (by (repeat (first | assumption | exact Mod.refl _ _ | refine Mod.drew ?_ | refine Mod.alloc ?_ _)))
    · first | exact hzz.modNil (by (repeat (first | assumption | exact Mod.refl _ _ | refine Mod.drew ?_ | refine Mod.alloc ?_ _))) | exact hz.modNil (by (repeat (first | assumption | exact Mod.refl _ _ | refine Mod.drew ?_ | refine Mod.alloc ?_ _)))
    rw [decide_eq_true rfl]
    rintro e wy ⟨rfl, rfl⟩
    refine hK.out _ _ (HK.out _ (by (repeat (first | assumption | exact Mod.refl _ _ | refine Mod.drew ?_ | refine Mod.alloc ?_ _)))) (fun hHeld => ?_)
    clear hK K
    (try simp only [Act.put, List.setIfInBounds_toArray, List.set_cons_zero, List.set_cons_succ])
    (try simp only [List.set_cons_succ, List.set_cons_zero])
    refine wpAnyH_take (i := 31) (v := ?_) rfl (by kernel_rfl) (by kernel_rfl) (by kernel_rfl) (fun _ _ _ h => h) (Or.inl ⟨by kernel_rfl, ?_⟩) (by assumption) ?_
    rotate_left
    · intro w hSw; (try dsimp only at hSw); (first | (go_simp; done) | (go_simp; with_reducible rfl))
    (try simp only [Act.put, List.getElem_toArray, List.getElem_cons_succ, List.getElem_cons_zero, List.setIfInBounds_toArray, List.set_cons_succ, List.set_cons_zero])
    refine wpAnyH_take (i := 32) (v := ?_) rfl (by kernel_rfl) (by kernel_rfl) (by kernel_rfl) (fun _ _ _ h => h) (Or.inl ⟨by kernel_rfl, ?_⟩) (by assumption) ?_
    rotate_left
    · intro w hSw; (try dsimp only at hSw); (first | (go_simp; done) | (go_simp; with_reducible rfl))
    (try simp only [Act.put, List.getElem_toArray, List.getElem_cons_succ, List.getElem_cons_zero, List.setIfInBounds_toArray, List.set_cons_succ, List.set_cons_zero])
    refine wpAnyH_done (by kernel_rfl) ?_ _
    go_wp2_with fail
    exact HEND.out _ (by (repeat (first | assumption | exact Mod.refl _ _ | refine Mod.drew ?_ | refine Mod.alloc ?_ _)))
  refine AllReadyH.cons (i := 29) rfl (fun K hK => ?_) AllReadyH.nil
  (try dsimp (config := { proj := false }) only [List.getElem_toArray, List.getElem_cons_succ, List.getElem_cons_zero])
  go_simp
  generalize hwz : World.alloc _ _ = wz
  have hmz : Mod nil w4 wz := by rw [← hwz]; exact (show Mod nil w4 _ from by (repeat (first | assumption | exact Mod.refl _ _ | refine Mod.drew ?_ | refine Mod.alloc ?_ _)))
  have hz : IsRow (fun _ => True) wz (.slice (some ⟨wa.heap.size, 0, none⟩) 32 32) (bys zeros32) := by rw [← hwz]; exact IsRow.ofBlock (S := fun _ => True) (heap_alloc_new _ _) trivial 32 32 (by simp [bys, zeros32])
  clear hwz
  refine hK.out _ _ (HK.out _ (by (repeat (first | assumption | exact Mod.refl _ _ | refine Mod.drew ?_ | refine Mod.alloc ?_ _)))) (fun hHeld => ?_)
  clear hK K
  (try simp only [Act.put, List.setIfInBounds_toArray, List.set_cons_zero, List.set_cons_succ])
  (try simp only [List.set_cons_succ, List.set_cons_zero])
  refine wpAnyH_ready (rs := [28]) (by kernel_rfl) (by simp) ?_
  refine AllReadyH.cons (i := 28) rfl (fun K hK => ?_) AllReadyH.nil
  (try dsimp (config := { proj := false }) only [List.getElem_toArray, List.getElem_cons_succ, List.getElem_cons_zero])
  go_simp
  refine (HHD.out _ ?_).mono ?_
  · (repeat (first | assumption | exact Mod.refl _ _ | refine Mod.drew ?_ | refine Mod.alloc ?_ _))
  rintro e wb ⟨pb, cb, rfl, hvb, hmb⟩
  have hmb' : Mod nil w4 wb := (show Mod nil w4 _ from by (repeat (first | assumption | exact Mod.refl _ _ | refine Mod.drew ?_ | refine Mod.alloc ?_ _))).thenNil hmb
  have hzz := hz.modNil ((show Mod nil wz _ from by (repeat (first | assumption | exact Mod.refl _ _ | refine Mod.drew ?_ | refine Mod.alloc ?_ _))).thenNil hmb)
  refine hK.out _ _ (HK.out _ (by (repeat (first | assumption | exact Mod.refl _ _ | refine Mod.drew ?_ | refine Mod.alloc ?_ _)))) (fun hHeld => ?_)
  clear hK K
  (try simp only [Act.put, List.setIfInBounds_toArray, List.set_cons_zero, List.set_cons_succ])
  (try simp only [List.set_cons_succ, List.set_cons_zero])
  refine wpAnyH_ready (rs := [30]) (by kernel_rfl) (by simp) ?_
  refine AllReadyH.cons (i := 30) rfl (fun K hK => ?_) AllReadyH.nil
  (try dsimp (config := { proj := false }) only [List.getElem_toArray, List.getElem_cons_succ, List.getElem_cons_zero])
  go_simp
  refine (refBytesW (fun _ => True) (fun _ => True) _ _ zeros32 zeros32 _ ?_ ?_).mono ?_
  · first | exact (hvv.mono (fun _ _ _ => trivial)).modNil (by (repeat (first | assumption | exact Mod.refl _ _ | refine Mod.drew ?_ | refine Mod.alloc ?_ _))) | exact (hvb.row.mono (fun _ _ _ => trivial)).modNil (by (repeat (first | assumption | exact Mod.refl _ _ | refine Mod.drew ?_ | refine Mod.alloc ?_ _)))
  · first | exact hzz.modNil (by (repeat (first | assumption | exact Mod.refl _ _ | refine Mod.drew ?_ | refine Mod.alloc ?_ _))) | exact hz.modNil (by (repeat (first | assumption | exact Mod.refl _ _ | refine Mod.drew ?_ | refine Mod.alloc ?_ _)))
  rw [decide_eq_true rfl]
  rintro e wy ⟨rfl, rfl⟩
  refine hK.out _ _ (HK.out _ (by (repeat (first | assumption | exact Mod.refl _ _ | refine Mod.drew ?_ | refine Mod.alloc ?_ _)))) (fun hHeld => ?_)
  clear hK K
  (try simp only [Act.put, List.setIfInBounds_toArray, List.set_cons_zero, List.set_cons_succ])
  (try simp only [List.set_cons_succ, List.set_cons_zero])
  refine wpAnyH_take (i := 31) (v := ?_) rfl (by kernel_rfl) (by kernel_rfl) (by kernel_rfl) (fun _ _ _ h => h) (Or.inl ⟨by kernel_rfl, ?_⟩) (by assumption) ?_
  rotate_left
  · intro w hSw; (try dsimp only at hSw); (first | (go_simp; done) | (go_simp; with_reducible rfl))
  (try simp only [Act.put, List.getElem_toArray, List.getElem_cons_succ, List.getElem_cons_zero, List.setIfInBounds_toArray, List.set_cons_succ, List.set_cons_zero])
  refine wpAnyH_take (i := 32) (v := ?_) rfl (by kernel_rfl) (by kernel_rfl) (by kernel_rfl) (fun _ _ _ h => h) (Or.inl ⟨by kernel_rfl, ?_⟩) (by assumption) ?_
  rotate_left
  · intro w hSw; (try dsimp only at hSw); (first | (go_simp; done) | (go_simp; with_reducible rfl))
  (try simp only [Act.put, List.getElem_toArray, List.getElem_cons_succ, List.getElem_cons_zero, List.setIfInBounds_toArray, List.set_cons_succ, List.set_cons_zero])
  refine wpAnyH_done (by kernel_rfl) ?_ _
  go_wp2_with fail
  exact HEND.out _ (by (repeat (first | assumption | exact Mod.refl _ _ | refine Mod.drew ?_ | refine Mod.alloc ?_ _)))
end Go.Proofs.YtjjcmdblohbneaaGreat

/- cfllaw23.DiarySmall: over a disk that is too small it takes what goes in, refuses the rest, and forgets nothing. (Printed by wip/tools/gen_lawdiarysmall.py.) -/
import Derived.Test.YtjjcmdblohbneaaGreatDiaryLaw
import Derived.Test.YtjjcmdblohbneaaGreatRd
namespace Go.Proofs.YtjjcmdblohbneaaGreat
open Go.RowKit
/-- a diary that a statement plays with, and its own list of entries -/
structure DW (B : Nat) (F R : Nat → Prop) (w : World) (yb tb db bl bm : Nat) (y : YS) (v : Value) (m : Nat) (l : List En) (n N : Nat) : Prop where
  yy : IsY F w yb tb db bl bm y
  own : ∀ k, F k → B ≤ k ∧ k < w.heap.size
  ents : IsEnts R w v m l
  rown : ∀ k, R k → k < w.heap.size ∧ ¬ F k ∧ k ≠ tb
  vown : ∀ k, v.ownBlock = some k → B ≤ k
  tb : B ≤ tb
  inv : YI n N y
theorem DW.modNil {B : Nat} {F R : Nat → Prop} {w w' : World} {yb tb db bl bm : Nat} {y : YS} {v : Value} {m : Nat} {l : List En} {n N : Nat} (h : DW B F R w yb tb db bl bm y v m l n N) (hm : Mod nil w w') : DW B F R w' yb tb db bl bm y v m l n N :=
  ⟨h.yy.modNil hm, fun k hk => ⟨(h.own k hk).1, Nat.lt_of_lt_of_le (h.own k hk).2 hm.size⟩, h.ents.modNil hm, fun k hk => ⟨Nat.lt_of_lt_of_le (h.rown k hk).1 hm.size, (h.rown k hk).2⟩, h.vown, h.tb, h.inv⟩
theorem DW.turned {B : Nat} {F R : Nat → Prop} {w w' : World} {yb tb db bl bm : Nat} {y : YS} {v : Value} {m : Nat} {l : List En} {n N : Nat} (h : DW B F R w yb tb db bl bm y v m l n N) {yb' : Nat} {y' : YS} (hy : IsY (fun k => F k ∨ w.heap.size ≤ k) w' yb' tb db bl bm y') (hm : Mod (fun k => F k ∨ k = tb) w w') (hi : YI n N y') (hB : B ≤ w.heap.size) :
    DW B (fun k => (F k ∨ w.heap.size ≤ k) ∧ k < w'.heap.size) R w' yb' tb db bl bm y' v m l n N :=
  ⟨hy.mono (fun k hk h => ⟨h, hk⟩), fun k hk => ⟨hk.1.elim (fun x => (h.own k x).1) (fun x => Nat.le_trans hB x), hk.2⟩, h.ents.mod hm (fun k _ hk e => e.elim (h.rown k hk).2.1 (h.rown k hk).2.2), fun k hk => ⟨Nat.lt_of_lt_of_le (h.rown k hk).1 hm.size, fun x => x.1.elim (h.rown k hk).2.1 (fun y => by have := (h.rown k hk).1; omega), (h.rown k hk).2.2⟩, h.vown, h.tb, hi⟩
/-- the list of entries with one more -/
theorem DW.push {B : Nat} {F R T : Nat → Prop} {w : World} {yb tb db bl bm : Nat} {y : YS} {v x : Value} {m : Nat} {l : List En} {n N g : Nat} (h : DW B F R w yb tb db bl bm y v m l n N) {e : En} (hx : IsRow T w x (bys e.b)) (hT : ∀ k, T k → k < w.heap.size ∧ ¬ F k ∧ k ≠ tb ∧ ¬ v.ownBlock = some k) (hg : w.heap.size = g) (hB : B ≤ w.heap.size) (hm : m ≤ 100000) (ty : TypeId) :
    ∃ p c w', (Builtin.append_ #[33, 33] ty #[v, .slice (some ⟨g, 0, none⟩) 1 1]).run Tryz.prog (w.alloc (.cells #[.int .i64 e.k, x] 36)) = .ok (.slice p (m + 1) c) w' ∧
      DW B F (fun k => ((R k ∨ T k) ∨ w.heap.size ≤ k) ∧ k < w'.heap.size) w' yb tb db bl bm y (.slice p (m + 1) c) (m + 1) (l ++ [e]) n N ∧ Mod (fun k => v.ownBlock = some k) w w' := by
  obtain ⟨v', w', hrun, hv', hm2, ho⟩ := ents_append (R := T) (g := g) ty (h.ents.mono (T := fun k => R k ∨ T k) (fun _ _ hk => .inl hk)) hx (fun k hk => ⟨.inr hk, (hT k hk).2.2.2⟩) hg (by omega)
  obtain ⟨p, c, rfl⟩ := hv'.form
  have hno : ∀ k, v.ownBlock = some k → R k := fun k hk => (h.ents.own hk).1
  refine ⟨p, c, w', hrun, ⟨h.yy.mod hm2 (fun k hk hF ho => by
    have := h.rown k (hno k ho)
    exact hF.elim this.2.1 this.2.2), fun k hk => ⟨(h.own k hk).1, Nat.lt_of_lt_of_le (h.own k hk).2 hm2.size⟩, hv'.mono (fun k hk h => ⟨h, hk⟩), fun k hk => ⟨hk.2, ?_, ?_⟩, fun k hk => ?_, h.tb, h.inv⟩, hm2⟩
  · rcases hk.1 with (h1 | h1) | h1
    · exact (h.rown k h1).2.1
    · exact (hT k h1).2.1
    · exact fun hf => by have := (h.own k hf).2; omega
  · rcases hk.1 with (h1 | h1) | h1
    · exact (h.rown k h1).2.2
    · exact (hT k h1).2.2.1
    · intro e; have := h.yy.tab.lt; omega
  · rcases ho k hk with h1 | h1
    · exact h.vown k h1
    · exact Nat.le_trans hB h1
theorem and127 (x : Int) : bits .and .i64 x 127 = x % 128 := and_low 7 127 (by omega) rfl x
def smallBad (n : Int) (len : Nat) : Prop := n < 2 ∨ 40 < n ∨ 50 < len
set_option maxRecDepth 100000 in
theorem lawDSmall_bad (n : Int) (ps : Option Addr) (len cs : Nat) (w : World) (h : smallBad n len) (hl : len ≤ 9223372036854775807) :
    Calls Tryz.prog 3 #[.int .i64 n, .slice ps len cs] w fun e w' => e = .returned (.bool true) ∧ Mod nil w w' := by
  have h' : n < 2 ∨ (2 ≤ n ∧ 40 < n) ∨ (2 ≤ n ∧ n ≤ 40 ∧ 50 < (len : Int)) := by unfold smallBad at h; omega
  rcases h' with h1 | ⟨h1, h2⟩ | ⟨h1, h2, h3⟩
  all_goals
    go_enter Tryz.func3, Tryz.ntmps3
    go_wp2_with fail
    refine (yFirst w).mono ?_
    rintro e w1 ⟨rfl, hm1⟩
    go_wp2_with fail
    refine (yFirst w1).mono ?_
    rintro e w2 ⟨rfl, hm2⟩
    go_wp2_with fail
    go_ret
    exact ⟨rfl, hm1.thenNil hm2⟩
set_option maxRecDepth 100000 in
set_option maxHeartbeats 8000000 in
theorem lawDSmall (n : Nat) (ps : Option Addr) (len cs : Nat) (ls : List Int) (w : World) (h4 : 2 ≤ n) (h100 : n ≤ 40) (hlen : len ≤ 50) (hrow : IsRow (· < w.heap.size) w (.slice ps len cs) (ls.map (.int .i64))) :
    Calls Tryz.prog 3 #[.int .i64 n, .slice ps len cs] w fun e w' => e = .returned (.bool true) ∧ Mod nil w w' := by
  refine (?_ : ∀ Post : Ending → World → Prop, Hid (∀ e w', (e = .returned (.bool true) ∧ Mod nil w w') → Post e w') → Calls Tryz.prog 3 #[.int .i64 n, .slice ps len cs] w Post) _ (Lib.hid (fun _ _ h => h))
  intro Post HPOST
  have HROW := Lib.hid hrow
  have hls : ls.length = len := by
    obtain ⟨_, _, h, _⟩ := hrow
    simp only [Value.slice.injEq, List.length_map] at h
    exact h.2.1.symm
  have HLS := Lib.hid hls
  obtain ⟨N, hN⟩ : ∃ N, n / 2 = N := ⟨_, rfl⟩
  have hN1 : (n : Int) / 2 = (N : Int) := by omega
  have hN2 : 1 ≤ N ∧ N ≤ 20 := by omega
  have HN := Lib.hid hN
  have hz : ∀ (k : Nat), k < 128 → ∀ W, (Instr.makeSlice 34 (.int .i64 k) (.int .i64 k)).run Tryz.prog W = .ok (.slice (some ⟨W.heap.size, 0, Option.none⟩) k k) (W.alloc (.cells (bys (List.replicate k 0)).toArray 5)) := fun k hk W => by
    obtain ⟨i0, hi0, hz0, hz1, hz2⟩ := info_parts info_u8
    rw [bys_replicate0]
    exact run_make_one 34 5 i0 _ 1 Tryz.underlying34 hi0 hz0 hz1 hz2 rfl k (by omega) (by unfold maxLen; omega) W
  have HMK := Lib.hid hz
  clear hrow hls hN hz
  go_enter Tryz.func3, Tryz.ntmps3
  go_wp2_with fail
  refine (yFirst w).mono ?_
  rintro e w1 ⟨rfl, hm1⟩
  have HM1 := Lib.hid hm1
  clear hm1
  go_wp2_with fail
  refine (shaNewTable w1).mono ?_
  rintro e w2 ⟨tb, rfl, ht2, htb, hm2⟩
  have HT2 := Lib.hid ht2
  have HM2 := Lib.hid (HM1.out.thenNil hm2)
  have htb0 : w.heap.size ≤ tb := Nat.le_trans HM1.out.size htb
  clear ht2 htb hm2
  go_wp2_with fail
  refine (diskNew n w2 (by omega) (by omega)).mono ?_
  rintro e w3 ⟨db, bl, bm, C, rfl, hd3, hfoot, hm3⟩
  obtain ⟨d, hd⟩ : ∃ d, freshDisk n = d := ⟨_, rfl⟩
  have HY0 : Hid (YI n N ⟨JS.fresh d, d, []⟩) := Lib.hid (by rw [← hd]; exact YI.fresh n N HN.out (by omega))
  rw [hd] at hd3
  have HDT : Hid (IsDT (fun k => w2.heap.size ≤ k) w3 tb db bl bm d) := Lib.hid (IsDT.of hd3 (HT2.out.mod hm3 (not_nil _)) (fun k hk _ => ⟨hfoot k hk, by have := hfoot k hk; have := HT2.out.lt; omega⟩))
  have HM3 := Lib.hid (HM2.out.thenNil hm3)
  have h23 := hm3.size
  clear hd hd3 hfoot hm3
  go_wp2_with fail
  refine (diaryOpen_ok HY0.out _ tb db bl bm w3 HDT.out).mono ?_
  rintro e w4 ⟨yb, hyb, rfl, hy4, hm4⟩
  obtain ⟨B, hB⟩ : ∃ B, w.heap.size = B := ⟨_, rfl⟩
  rw [hB] at htb0
  have HB := Lib.hid hB
  have HW4 : Hid (DW B (fun k => w2.heap.size ≤ k ∧ k < w4.heap.size) (fun _ => False) w4 yb tb db bl bm ⟨JS.fresh d, d, []⟩ (.slice Option.none 0 0) 0 [] n N) := Lib.hid
    ⟨hy4.mono (fun k hk h => ⟨h.elim id (fun h => Nat.le_trans h23 h), hk⟩), fun k hk => ⟨by have := HM2.out.size; omega, hk.2⟩, IsEnts.nil _ _, fun _ h => h.elim, fun k hk => by simp [Value.ownBlock] at hk, htb0, HY0.out⟩
  have HM4 := Lib.hid (HM3.out.new hm4 (fun k h => by rw [h]; omega))
  clear hB hy4 hm4 hyb
  go_wp2_with fail
  go_loopw [10, 11, 12] (fun v10 v11 v12 wr => ∃ (i r m : Nat) (F R : Nat → Prop) (y : YS) (l : List En) (q : Option Addr) (c : Nat), i ≤ len ∧ v12 = .int .i64 i ∧ v11 = .slice q m c ∧ v10 = .int .i64 r ∧ m ≤ i ∧ r ≤ 20 ∧ Hid (y.l = l) ∧ Hid (N - y.s.at_ = r) ∧ Hid (DW B F R wr yb tb db bl bm y (.slice q m c) m l n N) ∧ Hid (Mod nil w wr)) (fun _ _ v _ => len - (intOf v).toNat)
  case atStart => exact ⟨0, N, 0, _, _, _, [], Option.none, 0, by omega, rfl, rfl, rfl, by omega, by omega, Lib.hid rfl, Lib.hid rfl, HW4, HM4⟩
  case round =>
    obtain ⟨i, r, m, F, R, y, l, q, c, hi, rfl, rfl, rfl, hmi, hr20, HLL, HROOM, HW, HMW⟩ := hrel
    by_cases hlt : i < len
    · obtain ⟨ps', cs', he, hc⟩ := HROW.out.modNil HMW.out
      obtain ⟨bs, off, rfl, hS, hbw, hx⟩ := hc i (by rw [List.length_map, HLS.out]; exact hlt)
      simp only [Value.slice.injEq] at he
      obtain ⟨rfl, -, rfl⟩ := he
      obtain ⟨x, hx0⟩ : ∃ x, ls.getD i 0 = x := ⟨_, rfl⟩
      have hx1 : wr.cell? ⟨bs, off + i, Option.none⟩ = some (.int .i64 x) := by rw [hx, ← hx0]; simp [HLS.out, hlt]
      obtain ⟨k, hk⟩ : ∃ k : Nat, x % 128 = (k : Int) := ⟨(x % 128).toNat, by omega⟩
      have hk128 : k < 128 := by omega
      have hand : bits .and .i64 x 127 = (k : Int) := by rw [and127, hk]
      have hmk := HMK.out k hk128
      obtain ⟨j4, hj4⟩ : ∃ j4, i % 4 = j4 := ⟨_, rfl⟩
      have hj4b : j4 ≤ 3 := by omega
      have hand3 : bits .and .i64 (i : Int) 3 = (j4 : Int) := by rw [and3]; omega
      obtain ⟨kk, hkk⟩ : ∃ kk, 1 + j4 = kk := ⟨_, rfl⟩
      have hkk2 : 1 + (j4 : Int) = (kk : Int) := by omega
      have hkkb : kk ≤ 4 := by omega
      obtain ⟨nd, hnd⟩ : ∃ nd, sectorsF (k + 1) = nd := ⟨_, rfl⟩
      have hq1 : ((25 + (k : Int)) + 62) / 63 = (nd : Int) := by rw [← hnd]; unfold sectorsF; omega
      have HND := Lib.hid hnd
      have hB5 : B ≤ wr.heap.size := by have := HMW.out.size; have := HB.out; omega
      obtain ⟨g0, hg0⟩ : ∃ g0, wr.heap.size = g0 := ⟨_, rfl⟩
      have HG0 := Lib.hid hg0
      clear hc hx hx0 hk hj4 hkk hnd hg0
      go_upto_region 20 with (fail)
      (try rw [HG0.out])
      generalize hw5 : World.alloc (World.alloc wr _) _ = w5
      have hb5 : w5.heap[g0]? = some (.cells (bys (List.replicate k 0)).toArray 5 (0, 0)) := by rw [← hw5]; exact heap_alloc_old (by rw [← HG0.out]; exact heap_alloc_new _ _)
      have hx5 : w5.heap[g0 + 1]? = some (.cells #[.int .i64 (kk : Int), .slice (some ⟨g0, 0, Option.none⟩) k k] 36 (0, 0)) := by
        rw [← hw5]
        have h := heap_alloc_new (wr.alloc (.cells (bys (List.replicate k 0)).toArray 5)) (.cells #[.int .i64 (kk : Int), .slice (some ⟨g0, 0, Option.none⟩) k k] 36)
        rw [World.size_alloc, HG0.out] at h
        exact h
      have hm5 : Mod nil wr w5 := by rw [← hw5]; exact ((Mod.refl _ _).alloc _).alloc _
      have hs5 : w5.heap.size = g0 + 2 := by rw [← hw5, World.size_alloc, World.size_alloc, HG0.out]
      obtain ⟨b, hb⟩ : ∃ b : List UInt8, List.replicate k 0 = b := ⟨_, rfl⟩
      have hbl : b.length = k := by rw [← hb]; simp
      rw [hb] at hb5
      have HBL := Lib.hid hbl
      have HW5 := Lib.hid (HW.out.modNil hm5)
      have HMW5 := Lib.hid (HMW.out.thenNil hm5)
      have HROW5 : Hid (IsRow (· = g0) w5 (.slice (some ⟨g0, 0, Option.none⟩) k k) (bys b)) := Lib.hid (IsRow.ofBlock (S := (· = g0)) hb5 rfl k k (by rw [bys_length, hbl]))
      have HX5 := Lib.hid hx5
      have hgf : ¬ F g0 ∧ g0 ≠ tb ∧ ¬ R g0 := ⟨fun h => by have := (HW.out.own _ h).2; have := HG0.out; omega, fun h => by have := HW.out.yy.tab.lt; have := HG0.out; omega, fun h => by have := (HW.out.rown _ h).1; have := HG0.out; omega⟩
      have hgx : ¬ F (g0 + 1) ∧ g0 + 1 ≠ tb := ⟨fun h => by have := (HW.out.own _ h).2; have := HG0.out; omega, fun h => by have := HW.out.yy.tab.lt; have := HG0.out; omega⟩
      have HS5 := Lib.hid hs5
      have hBg : B ≤ g0 := by have := HG0.out; omega
      have x0 := cell_of hx5 0
      have x1 := cell_of hx5 1
      simp only [List.getElem?_toArray, List.getElem?_cons_zero, List.getElem?_cons_succ] at x0 x1
      clear hw5 hb5 hx5 hm5 hb hbl hmk hand hand3 hx1 hs5 HW HMW
      by_cases hfit : nd ≤ r
      · obtain ⟨y', hadd, hi', hl', hat'⟩ := HW5.out.inv.add_ok ⟨(kk : Nat), b⟩ (by simp) (by simp only; omega) (by simp only; rw [HBL.out]; omega) (by simp only; rw [HBL.out, HND.out]; have := HROOM.out; have := HW5.out.inv.pi.lim.2.2.2; omega)
        have hcall := diaryAdd F _ yb tb db bl bm k k kk y b _ w5 HW5.out.yy HW5.out.inv.lim HROW5.out (fun j hj => by rw [hj]; exact ⟨by rw [HS5.out]; omega, hgf.1, hgf.2.1⟩) (by omega) (by omega) (by have := HW5.out.inv.few; omega)
        rw [hadd] at hcall
        have HC := Lib.hid hcall
        have HI := Lib.hid hi'
        have HL' : Hid (y'.l = l ++ [⟨(kk : Nat), b⟩]) := Lib.hid (by rw [hl', HLL.out])
        have HAT : Hid (y'.s.at_ = y.s.at_ + nd) := Lib.hid (by rw [hat']; simp only; rw [HBL.out, HND.out])
        have hfit' : decide ((nd : Int) ≤ (r : Int)) = true := by simp; omega
        clear hadd hi' hl' hat' hcall
        go_wp2_with fail
        refine HC.out.mono ?_
        rintro e w7 ⟨rfl, hy7, hm7⟩
        have hs57 := hm7.size
        have HW7 := Lib.hid (HW5.out.turned hy7 hm7 HI.out (by have := HS5.out; omega))
        have hrow7 := HROW5.out.mod hm7 (fun j _ hj e => by rw [hj] at e; exact e.elim hgf.1 hgf.2.1)
        have hx7 := (hm7.block (g0 + 1) (by have := HS5.out; omega) (fun e => e.elim hgx.1 hgx.2)).trans HX5.out
        have HM7 : Hid (Mod nil w w7) := Lib.hid (HMW5.out.new hm7 (fun j h => by have := HB.out; rcases h with h | h; exact (by have := (HW5.out.own j h).1; omega); exact (by omega)))
        obtain ⟨g2, hg2⟩ : ∃ g2, w7.heap.size = g2 := ⟨_, rfl⟩
        obtain ⟨p8, c8, w8, hrun8, hw8, hm8⟩ := HW7.out.push (e := ⟨(kk : Nat), b⟩) hrow7 (fun j hj => by
          rw [hj]
          exact ⟨by have := HS5.out; omega, fun h => h.1.elim hgf.1 (fun h => by have := HS5.out; omega), hgf.2.1, fun ho => by have := (HW5.out.ents.own ho).1; exact hgf.2.2 this⟩) hg2 (by have := HS5.out; omega) (by omega) 33
        have HRUN := Lib.hid hrun8
        have HWA := Lib.hid hw8
        have HMA : Hid (Mod nil w w8) := Lib.hid (HM7.out.new hm8 (fun j h => by have := HB.out; have := HW7.out.vown j h; omega))
        have z0 := cell_of hx7 0
        have z1 := cell_of hx7 1
        simp only [List.getElem?_toArray, List.getElem?_cons_zero, List.getElem?_cons_succ] at z0 z1
        have hsub : IntKind.i64.wrap ((r : Int) - (nd : Int)) = ((r - nd : Nat) : Int) := by rw [IntKind.wrap_i64]; omega
        have hsub2 : (r : Int) - (nd : Int) = ((r - nd : Nat) : Int) := by omega
        have HLA := HL'
        have HROOMN : Hid (N - y'.s.at_ = r - nd) := Lib.hid (by rw [HAT.out]; have := HROOM.out; omega)
        clear hy7 hm7 hrow7 hx7 hrun8 hw8 hm8 x0 x1 hs57 HC
        go_upto_region 26 with (first | (at_builtin; refine wpList_append_run rfl _ _ _ _ rfl rfl rfl HRUN.out ?_))
        obtain ⟨gb, L, y0, hyl, hlog, -, -⟩ := HWA.out.yy.log
        have HEN := Lib.hid (logEntries L gb tb y'.l w8 hlog HWA.out.inv.bods (by have := HWA.out.inv.few; omega))
        have hnA : y'.l.length ≤ 4096 := HWA.out.inv.few
        obtain ⟨nA, hnA2⟩ : ∃ nA, y'.l.length = nA := ⟨_, rfl⟩
        rw [hnA2] at HEN hnA
        clear hlog hnA2
        go_wp2_with fail
        refine HEN.out.mono ?_
        rintro e w9 ⟨p9, c9, rfl, hv9, hm9⟩
        have HWB := Lib.hid (HWA.out.modNil hm9)
        have HMB := Lib.hid (HMA.out.thenNil hm9)
        have HSM := Lib.hid (chainSame _ _ p9 p8 nA c9 (m + 1) c8 y'.l (l ++ [⟨(kk : Nat), b⟩]) w9 hv9.read HWB.out.ents.read (by omega))
        rw [decide_eq_true HLA.out] at HSM
        clear hv9 hm9 y0 hyl HEN
        go_wp2_with fail
        refine HSM.out.mono ?_
        rintro e w10 ⟨rfl, hm10⟩
        have HWC := Lib.hid (HWB.out.modNil hm10)
        have HMC := Lib.hid (HMB.out.thenNil hm10)
        clear hm10 HSM HWB HMB HWA HMA
        go_wp2_with fail
        exact ⟨⟨i + 1, r - nd, m + 1, _, _, y', l ++ [⟨(kk : Nat), b⟩], p8, c8, by omega, by go_num, rfl, rfl, by omega, by omega, HLA, HROOMN, HWC, HMC⟩, by simp [intOf]; omega⟩
      · have hadd := HW5.out.inv.add_full ⟨(kk : Nat), b⟩ (by simp) (by simp only; omega) (by simp only; rw [HBL.out]; omega) (by simp only; rw [HBL.out, HND.out]; have := HROOM.out; have := HW5.out.inv.pi.lim.2.2.2; omega)
        have hcall := diaryAdd F _ yb tb db bl bm k k kk y b _ w5 HW5.out.yy HW5.out.inv.lim HROW5.out (fun j hj => by rw [hj]; exact ⟨by rw [HS5.out]; omega, hgf.1, hgf.2.1⟩) (by omega) (by omega) (by have := HW5.out.inv.few; omega)
        rw [hadd] at hcall
        have HC := Lib.hid hcall
        have hfit' : decide ((nd : Int) ≤ (r : Int)) = false := by simp; omega
        clear hadd hcall
        go_wp2_with fail
        refine HC.out.mono ?_
        rintro e w8 ⟨rfl, hy7, hm7⟩
        have HWA := Lib.hid (HW5.out.turned hy7 hm7 HW5.out.inv (by have := HS5.out; omega))
        have HMA : Hid (Mod nil w w8) := Lib.hid (HMW5.out.new hm7 (fun j h => by have := HB.out; rcases h with h | h; exact (by have := (HW5.out.own j h).1; omega); exact (by omega)))
        have HLA := HLL
        clear hy7 hm7 x0 x1 HC
        obtain ⟨gb, L, y0, hyl, hlog, -, -⟩ := HWA.out.yy.log
        have HEN := Lib.hid (logEntries L gb tb y.l w8 hlog HWA.out.inv.bods (by have := HWA.out.inv.few; omega))
        have hnA : y.l.length ≤ 4096 := HWA.out.inv.few
        obtain ⟨nA, hnA2⟩ : ∃ nA, y.l.length = nA := ⟨_, rfl⟩
        rw [hnA2] at HEN hnA
        clear hlog hnA2
        go_wp2_with fail
        refine HEN.out.mono ?_
        rintro e w9 ⟨p9, c9, rfl, hv9, hm9⟩
        have HWB := Lib.hid (HWA.out.modNil hm9)
        have HMB := Lib.hid (HMA.out.thenNil hm9)
        have HSM := Lib.hid (chainSame _ _ p9 q nA c9 m c y.l l w9 hv9.read HWB.out.ents.read (by omega))
        rw [decide_eq_true HLA.out] at HSM
        clear hv9 hm9 y0 hyl HEN
        go_wp2_with fail
        refine HSM.out.mono ?_
        rintro e w10 ⟨rfl, hm10⟩
        have HWC := Lib.hid (HWB.out.modNil hm10)
        have HMC := Lib.hid (HMB.out.thenNil hm10)
        clear hm10 HSM HWB HMB HWA HMA
        go_wp2_with fail
        exact ⟨⟨i + 1, r, m, _, _, y, l, q, c, by omega, by go_num, rfl, rfl, by omega, by omega, HLA, HROOM, HWC, HMC⟩, by simp [intOf]; omega⟩
    · obtain rfl : i = len := by omega
      have hB6 : B ≤ wr.heap.size := by have := HMW.out.size; have := HB.out; omega
      go_wp2_with fail
      refine (diaryOpen_ok HW.out.inv _ tb db bl bm wr HW.out.yy.dt).mono ?_
      rintro e w5 ⟨yb2, -, rfl, hy5, hm5⟩
      have HW5 := Lib.hid (HW.out.turned hy5 (hm5.mono (fun k _ h => .inr h)) HW.out.inv hB6)
      have HM5 : Hid (Mod nil w w5) := Lib.hid (HMW.out.new hm5 (fun k h => by have := HB.out; have := HW.out.tb; omega))
      clear hy5 hm5 HW HMW HMK HROW
      go_wp2_with fail
      refine (yFirst w5).mono ?_
      rintro e w8 ⟨rfl, hm6⟩
      have HWA := Lib.hid (HW5.out.modNil hm6)
      have HMA := Lib.hid (HM5.out.thenNil hm6)
      have HLA := HLL
      clear hm6
      obtain ⟨gb, L, y0, hyl, hlog, -, -⟩ := HWA.out.yy.log
      have HEN := Lib.hid (logEntries L gb tb y.l w8 hlog HWA.out.inv.bods (by have := HWA.out.inv.few; omega))
      have hnA : y.l.length ≤ 4096 := HWA.out.inv.few
      obtain ⟨nA, hnA2⟩ : ∃ nA, y.l.length = nA := ⟨_, rfl⟩
      rw [hnA2] at HEN hnA
      clear hlog hnA2
      go_wp2_with fail
      refine HEN.out.mono ?_
      rintro e w9 ⟨p9, c9, rfl, hv9, hm9⟩
      have HWB := Lib.hid (HWA.out.modNil hm9)
      have HMB := Lib.hid (HMA.out.thenNil hm9)
      have HSM := Lib.hid (chainSame _ _ p9 q nA c9 m c y.l l w9 hv9.read HWB.out.ents.read (by omega))
      rw [decide_eq_true HLA.out] at HSM
      clear hv9 hm9 y0 hyl HEN
      go_wp2_with fail
      refine HSM.out.mono ?_
      rintro e w10 ⟨rfl, hm10⟩
      have HE := Lib.hid (HPOST.out _ _ ⟨rfl, HMB.out.thenNil hm10⟩)
      clear hm10
      go_wp2_with fail
      exact HE.out
set_option maxRecDepth 100000 in
theorem walkDiarySmall (v0 v1 : Value) (W : World) (r0 : Rd W 3 v0) (r1 : Rd W 22 v1) :
    Calls Tryz.prog 3 #[v0, v1] W fun e w' => e = .returned (.bool true) ∧ Below W.heap.size W w' := by
  obtain ⟨n, rfl, _⟩ := r0.int Tryz.underlying3
  obtain ⟨l, hl, hn, _⟩ := r1.intRow Tryz.underlying22 Tryz.underlying3 (by kernel_rfl)
  obtain ⟨p, c, hv, hc⟩ := id hl
  rw [List.length_map] at hv
  subst hv
  by_cases hbad : smallBad n l.length
  · exact (lawDSmall_bad n p l.length c W hbad (by unfold maxLen at hn; omega)).mono fun e w' ⟨h1, h2⟩ => ⟨h1, h2.below⟩
  · unfold smallBad at hbad
    obtain ⟨n, rfl⟩ := Int.eq_ofNat_of_zero_le (by omega : 0 ≤ n)
    exact (lawDSmall n p l.length c l W (by omega) (by omega) (by omega) hl).mono fun e w' ⟨h1, h2⟩ => ⟨h1, h2.below⟩
end Go.Proofs.YtjjcmdblohbneaaGreat

/- cfllaw8.JournalFull: what does not go in is refused, and nothing changes; a picture makes room; each record is there in order. (Printed by wip/tools/gen_lawjournal.py.) -/
import Derived.Test.YtlkphkkjpjlnhaaJLaw
import Derived.Test.YtlkphkkjpjlnhaaBitsAnd
import Derived.Test.YtlkphkkjpjlnhaaRd
namespace Go.Proofs.Ytlkphkkjpjlnhaa
open Go.RowKit
theorem and127 (x : Int) : bits .and .i64 x 127 = x % 128 := and_low 7 127 (by omega) rfl x
/-- a journal that the statement plays with, and its own list of texts -/
structure JW (B : Nat) (F R : Nat → Prop) (w : World) (jb tb db bl bm : Nat) (s : JS) (d : DS) (v : Value) (l : List (List UInt8)) (n N : Nat) : Prop where
  jd : IsJD F w jb tb db bl bm s d
  own : ∀ k, F k → B ≤ k ∧ k < w.heap.size
  recs : IsTexts R w v l.length l
  rown : ∀ k, R k → B ≤ k ∧ k < w.heap.size ∧ ¬ F k ∧ k ≠ tb
  tb : B ≤ tb
  good : Good d n
  pend : d.pend = []
  hN : n / 2 = N
  pi : PI d.curs N s
theorem JW.modNil {B : Nat} {F R : Nat → Prop} {w : World} {jb tb db bl bm : Nat} {s : JS} {d : DS} {v : Value} {l : List (List UInt8)} {n N : Nat} (h : JW B F R w jb tb db bl bm s d v l n N) {w' : World} (m : Mod nil w w') : JW B F R w' jb tb db bl bm s d v l n N :=
  ⟨h.jd.modNil m, fun k hk => ⟨(h.own k hk).1, Nat.lt_of_lt_of_le (h.own k hk).2 m.size⟩, h.recs.modNil m, fun k hk => ⟨(h.rown k hk).1, Nat.lt_of_lt_of_le (h.rown k hk).2.1 m.size, (h.rown k hk).2.2⟩, h.tb, h.good, h.pend, h.hN, h.pi⟩
theorem JW.few {B : Nat} {F R : Nat → Prop} {w : World} {jb tb db bl bm : Nat} {s : JS} {d : DS} {v : Value} {l : List (List UInt8)} {n N : Nat} (h : JW B F R w jb tb db bl bm s d v l n N) : s.recs.length ≤ 100000 := by
  have := h.pi.lim.2.2.1; have := h.pi.lim.2.2.2; have := h.pi.room.2; omega
theorem JW.half {B : Nat} {F R : Nat → Prop} {w : World} {jb tb db bl bm : Nat} {s : JS} {d : DS} {v : Value} {l : List (List UInt8)} {n N : Nat} (h : JW B F R w jb tb db bl bm s d v l n N) : d.lasts.length / 2 = N := by rw [h.good.len, h.hN]
theorem JW.atle {B : Nat} {F R : Nat → Prop} {w : World} {jb tb db bl bm : Nat} {s : JS} {d : DS} {v : Value} {l : List (List UInt8)} {n N : Nat} (h : JW B F R w jb tb db bl bm s d v l n N) : s.at_ ≤ d.lasts.length / 2 := by rw [h.half]; exact h.pi.lim.2.2.2
theorem JW.limd {B : Nat} {F R : Nat → Prop} {w : World} {jb tb db bl bm : Nat} {s : JS} {d : DS} {v : Value} {l : List (List UInt8)} {n N : Nat} (h : JW B F R w jb tb db bl bm s d v l n N) : s.Lim (d.lasts.length / 2) := by rw [h.half]; exact h.pi.lim
/-- behind a call that turned the journal -/
theorem JW.turned {B : Nat} {F R : Nat → Prop} {w : World} {jb tb db bl bm : Nat} {s : JS} {d : DS} {v : Value} {l : List (List UInt8)} {n N : Nat} (h : JW B F R w jb tb db bl bm s d v l n N) {w' : World} {jb' : Nat} {s' : JS} {d' : DS} (hj : IsJD (fun k => F k ∨ w.heap.size ≤ k) w' jb' tb db bl bm s' d') (hm : Mod (fun k => F k ∨ k = tb) w w') (hg : Good d' n) (hp : d'.pend = []) (hi : PI d'.curs N s') (hB : B ≤ w.heap.size) :
    JW B (fun k => (F k ∨ w.heap.size ≤ k) ∧ k < w'.heap.size) R w' jb' tb db bl bm s' d' v l n N :=
  ⟨hj.mono (fun k hk h => ⟨h, hk⟩), fun k hk => ⟨hk.1.elim (fun x => (h.own k x).1) (fun x => Nat.le_trans hB x), hk.2⟩, h.recs.mod hm (fun k _ hk e => e.elim (h.rown k hk).2.2.1 (h.rown k hk).2.2.2), fun k hk => ⟨(h.rown k hk).1, Nat.lt_of_lt_of_le (h.rown k hk).2.1 hm.size, fun x => x.1.elim (h.rown k hk).2.2.1 (fun y => by have := (h.rown k hk).2.1; omega), (h.rown k hk).2.2.2⟩, h.tb, hg, hp, h.hN, hi⟩
theorem JW.none {B : Nat} {F R : Nat → Prop} {w : World} {jb tb db bl bm : Nat} {s : JS} {d : DS} {v : Value} {l : List (List UInt8)} {n N : Nat} (h : JW B F R w jb tb db bl bm s d v l n N) : JW B F (fun _ => False) w jb tb db bl bm s d (.slice Option.none 0 0) [] n N :=
  ⟨h.jd, h.own, IsTexts.nil _ _, fun _ hk => hk.elim, h.tb, h.good, h.pend, h.hN, h.pi⟩
/-- the list of texts with one more -/
theorem JW.push {B : Nat} {F R : Nat → Prop} {w : World} {jb tb db bl bm : Nat} {s : JS} {d : DS} {v : Value} {l : List (List UInt8)} {n N : Nat} (h : JW B F R w jb tb db bl bm s d v l n N) {g g2 : Nat} {x : Value} {b : List UInt8} (hx : IsRow (· = g) w x (bys b)) (hg : B ≤ g ∧ g < w.heap.size ∧ ¬ F g ∧ g ≠ tb ∧ ¬ R g) (hl : l.length ≤ 100000) (hB : B ≤ w.heap.size) (hg2 : w.heap.size = g2) (ty : TypeId) :
    ∃ p c w2, (Builtin.append_ #[32, 32] ty #[v, .slice (some ⟨g2, 0, Option.none⟩) 1 1]).run Try.prog (w.alloc (.cells #[x] 33)) = .ok (.slice p (l.length + 1) c) w2 ∧
      JW B F (fun k => ((R k ∨ k = g) ∨ w.heap.size ≤ k) ∧ k < w2.heap.size) w2 jb tb db bl bm s d (.slice p (l.length + 1) c) (l ++ [b]) n N ∧ Mod (fun k => B ≤ k) w w2 := by
  have hr1 : IsTexts (fun k => R k ∨ k = g) w v l.length l := h.recs.mono (fun _ _ hk => .inl hk)
  obtain ⟨v', w2, hrun, hv', hm2, -⟩ := texts_append (g := g2) ty hr1 hx (fun k hk => ⟨.inr hk, fun ho => by
    have := (h.recs.own ho).1
    rw [hk] at this
    exact hg.2.2.2.2 this⟩) hg2 (by omega)
  obtain ⟨p, c, rfl⟩ := hv'.form
  have htb := h.jd.tab.lt
  refine ⟨p, c, w2, hrun, ⟨h.jd.mod hm2 (fun k _ hk ho => ?_), fun k hk => ⟨(h.own k hk).1, Nat.lt_of_lt_of_le (h.own k hk).2 hm2.size⟩, ?_, fun k hk => ?_, h.tb, h.good, h.pend, h.hN, h.pi⟩, hm2.mono (fun k _ ho => (h.rown k (h.recs.own ho).1).1)⟩
  · have := h.rown k (h.recs.own ho).1
    exact hk.elim this.2.2.1 this.2.2.2
  · rw [List.length_append, List.length_singleton]
    exact hv'.mono (fun k hk h => ⟨h, hk⟩)
  · rcases hk.1 with (h1 | h1) | h1
    · have := h.rown k h1
      exact ⟨this.1, hk.2, this.2.2⟩
    · rw [h1]
      exact ⟨hg.1, by rw [← h1]; exact hk.2, hg.2.2.1, hg.2.2.2.1⟩
    · exact ⟨Nat.le_trans hB h1, hk.2, fun hf => by have := (h.own k hf).2; omega, by omega⟩
theorem fill_set (k m : Nat) (x : UInt8) (h : m < k) : (bys (List.replicate m x ++ List.replicate (k - m) 0)).toArray.setIfInBounds m (.int .u8 x.toNat) = (bys (List.replicate (m + 1) x ++ List.replicate (k - (m + 1)) 0)).toArray := by
  rw [List.setIfInBounds_toArray, bys_set]
  congr 2
  rw [List.set_append_right _ _ (by simp), List.length_replicate, Nat.sub_self, show k - m = (k - (m + 1)) + 1 by omega, List.replicate_succ, List.set_cons_zero, List.replicate_succ']
  simp
def fullBad (n : Int) (len : Nat) : Prop := n < 4 ∨ 100 < n ∨ 100 < len
set_option maxRecDepth 100000 in
theorem lawJFull_bad (n : Int) (ps : Option Addr) (len cs : Nat) (w : World) (h : fullBad n len) (hl : len ≤ 9223372036854775807) :
    Calls Try.prog 3 #[.int .i64 n, .slice ps len cs] w fun e w' => e = .returned (.bool true) ∧ Mod nil w w' := by
  have h' : n < 4 ∨ (4 ≤ n ∧ 100 < n) ∨ (4 ≤ n ∧ n ≤ 100 ∧ 100 < (len : Int)) := by unfold fullBad at h; omega
  rcases h' with h1 | ⟨h1, h2⟩ | ⟨h1, h2, h3⟩
  all_goals
    go_enter Try.func3, Try.ntmps3
    go_wp2_with fail
    refine (jFirst w).mono ?_
    rintro e w1 ⟨rfl, hm1⟩
    go_wp2_with fail
    refine (jFirst w1).mono ?_
    rintro e w2 ⟨rfl, hm2⟩
    go_wp2_with fail
    go_ret
    exact ⟨rfl, hm1.thenNil hm2⟩
set_option maxRecDepth 100000 in
set_option maxHeartbeats 8000000 in
theorem lawJFull (n : Nat) (ps : Option Addr) (len cs : Nat) (ls : List Int) (w : World) (h4 : 4 ≤ n) (h100 : n ≤ 100) (hlen : len ≤ 100) (hrow : IsRow (· < w.heap.size) w (.slice ps len cs) (ls.map (.int .i64))) :
    Calls Try.prog 3 #[.int .i64 n, .slice ps len cs] w fun e w' => e = .returned (.bool true) ∧ Mod nil w w' := by
  refine (?_ : ∀ Post : Ending → World → Prop, Hid (∀ e w', (e = .returned (.bool true) ∧ Mod nil w w') → Post e w') → Calls Try.prog 3 #[.int .i64 n, .slice ps len cs] w Post) _ (Lib.hid (fun _ _ h => h))
  intro Post HPOST
  have HROW := Lib.hid hrow
  have hls : ls.length = len := by
    obtain ⟨_, _, h, _⟩ := hrow
    simp only [Value.slice.injEq, List.length_map] at h
    exact h.2.1.symm
  have HLS := Lib.hid hls
  obtain ⟨N, hN⟩ : ∃ N, n / 2 = N := ⟨_, rfl⟩
  have hN1 : (n : Int) / 2 = (N : Int) := by omega
  have hN2 : 2 ≤ N ∧ N ≤ 50 := by omega
  have HN := Lib.hid hN
  have hz : ∀ (k : Nat), k < 128 → ∀ W, (Instr.makeSlice 33 (.int .i64 k) (.int .i64 k)).run Try.prog W = .ok (.slice (some ⟨W.heap.size, 0, Option.none⟩) k k) (W.alloc (.cells (bys (List.replicate k 0)).toArray 5)) := fun k hk W => by
    obtain ⟨i0, hi0, hz0, hz1, hz2⟩ := info_parts info_u8
    rw [bys_replicate]
    exact run_make_one 33 5 i0 _ 1 Try.underlying33 hi0 hz0 hz1 hz2 rfl k (by omega) (by unfold maxLen; omega) W
  have HMK := Lib.hid hz
  clear hrow hls hN hz
  go_enter Try.func3, Try.ntmps3
  go_wp2_with fail
  refine (jFirst w).mono ?_
  rintro e w1 ⟨rfl, hm1⟩
  have HM1 := Lib.hid hm1
  clear hm1
  go_wp2_with fail
  refine (shaNewTable w1).mono ?_
  rintro e w2 ⟨tb, rfl, ht2, htb, hm2⟩
  have HT2 := Lib.hid ht2
  have HM2 := Lib.hid (HM1.out.thenNil hm2)
  have htb0 : w.heap.size ≤ tb := Nat.le_trans HM1.out.size htb
  clear ht2 htb hm2
  go_wp2_with fail
  refine (diskNew n w2 (by omega) (by omega)).mono ?_
  rintro e w3 ⟨db, bl, bm, C, rfl, hd3, hfoot, hm3⟩
  obtain ⟨d, hd⟩ : ∃ d, freshDisk n = d := ⟨_, rfl⟩
  have HG : Hid (Good d n ∧ d.pend = []) := Lib.hid (by rw [← hd]; exact ⟨freshDisk_good n, rfl⟩)
  have HP : Hid (PI d.curs N (JS.fresh d)) := Lib.hid (by rw [← hd]; exact freshDisk_PI n N HN.out (by omega))
  rw [hd] at hd3
  have HDT : Hid (IsDT (fun k => w2.heap.size ≤ k) w3 tb db bl bm d) := Lib.hid (IsDT.of hd3 (HT2.out.mod hm3 (not_nil _)) (fun k hk _ => ⟨hfoot k hk, by have := hfoot k hk; have := HT2.out.lt; omega⟩))
  have HM3 := Lib.hid (HM2.out.thenNil hm3)
  have h23 := hm3.size
  clear hd hd3 hfoot hm3
  go_wp2_with fail
  refine (jOpen _ tb db bl bm d w3 HDT.out).mono ?_
  rintro e w4 ⟨jb, rfl, hjb, hj4, hm4⟩
  rw [HP.out.opens HG.out.1 HN.out] at hj4
  obtain ⟨B, hB⟩ : ∃ B, w.heap.size = B := ⟨_, rfl⟩
  rw [hB] at htb0
  have HB := Lib.hid hB
  have HW4 : Hid (JW B (fun k => w2.heap.size ≤ k ∧ k < w4.heap.size) (fun _ => False) w4 jb tb db bl bm (JS.fresh d) d (.slice Option.none 0 0) [] n N) := Lib.hid
    ⟨hj4.mono (fun k hk h => ⟨h.elim id (fun h => Nat.le_trans h23 h), hk⟩), fun k hk => ⟨by have := HM2.out.size; omega, hk.2⟩, IsTexts.nil _ _, fun _ h => h.elim, htb0, HG.out.1, HG.out.2, HN.out, HP.out⟩
  have HM4 := Lib.hid (HM3.out.new hm4 (fun k h => by rw [h]; omega))
  clear hB hj4 hm4 hjb
  go_wp2_with fail
  go_loopw [9, 10, 11, 12] (fun v9 v10 v11 v12 wr => ∃ (i r m g : Nat) (F R : Nat → Prop) (s : JS) (d : DS) (q : Option Addr) (c : Nat), i ≤ len ∧ v12 = .int .i64 i ∧ v9 = .slice q r c ∧ v10 = .int .i64 m ∧ v11 = .int .i64 g ∧ g ≤ i ∧ m ≤ 50 ∧ Hid (s.recs.length = r) ∧ Hid (N - s.at_ = m) ∧ Hid (s.gen = g) ∧ Hid (JW B F R wr jb tb db bl bm s d (.slice q r c) s.recs n N) ∧ Hid (Mod nil w wr)) (fun _ _ _ v _ => len - (intOf v).toNat)
  case atStart => exact ⟨0, 0, N, 0, _, _, JS.fresh d, d, Option.none, 0, by omega, rfl, rfl, rfl, rfl, by omega, by omega, Lib.hid rfl, Lib.hid rfl, Lib.hid rfl, HW4, HM4⟩
  case round =>
    obtain ⟨i, r, m, g, F, R, s, d, q, c, hi, rfl, rfl, rfl, rfl, hgi, hm50, HRL, HROOM, HGEN, HW, HMW⟩ := hrel
    by_cases hlt : i < len
    · obtain ⟨ps', cs', he, hc⟩ := HROW.out.modNil HMW.out
      obtain ⟨bs, off, rfl, hS, hbw, hx⟩ := hc i (by rw [List.length_map, HLS.out]; exact hlt)
      simp only [Value.slice.injEq] at he
      obtain ⟨rfl, -, rfl⟩ := he
      obtain ⟨x, hx0⟩ : ∃ x, ls.getD i 0 = x := ⟨_, rfl⟩
      have hx1 : wr.cell? ⟨bs, off + i, Option.none⟩ = some (.int .i64 x) := by rw [hx, ← hx0]; simp [HLS.out, hlt]
      obtain ⟨k, hk⟩ : ∃ k : Nat, x % 128 = (k : Int) := ⟨(x % 128).toNat, by omega⟩
      have hk128 : k < 128 := by omega
      have hand : bits .and .i64 x 127 = (k : Int) := by rw [and127, hk]
      have hmk := HMK.out k hk128
      obtain ⟨y, hy⟩ : ∃ y, UInt8.ofNat i = y := ⟨_, rfl⟩
      have hyn : y.toNat = i := by rw [← hy]; simp; omega
      have HY := Lib.hid hyn
      clear hc hx hx0 hk hy hyn
      go_wp2_with fail
      obtain ⟨gb, hgb⟩ : ∃ gb, wr.heap.size = gb := ⟨_, rfl⟩
      (try rw [hgb])
      generalize hw5 : World.alloc wr _ = w5
      have hb5 : w5.heap[gb]? = some (.cells (bys (List.replicate 0 y ++ List.replicate (k - 0) 0)).toArray 5 (0, 0)) := by rw [← hw5, ← hgb]; exact heap_alloc_new _ _
      have hm5 : Mod nil wr w5 := by rw [← hw5]; exact (Mod.refl _ _).alloc _
      have hgl5 : gb < w5.heap.size := heap_lt hb5
      have HB5 : B ≤ wr.heap.size := by have := HMW.out.size; have := HB.out; omega
      have hgw : wr.heap.size ≤ gb := by omega
      have hgf : B ≤ gb ∧ ¬ F gb ∧ gb ≠ tb ∧ ¬ R gb := ⟨by omega, fun h => by have := (HW.out.own _ h).2; omega, fun h => by have := HW.out.jd.tab.lt; omega, fun h => by have := (HW.out.rown _ h).2.1; omega⟩
      have HM5 := Lib.hid hm5
      clear hw5 hm5 hgb hmk hx1 hand
      obtain ⟨wo, rfl⟩ : ∃ wo, wo = wr := ⟨_, rfl⟩
      go_loopw [15] (fun v15 w6 => ∃ mm : Nat, mm ≤ k ∧ v15 = .int .i64 mm ∧ w6.heap[gb]? = some (.cells (bys (List.replicate mm y ++ List.replicate (k - mm) 0)).toArray 5 (0, 0)) ∧ Hid (Mod (· = gb) w5 w6)) (fun v _ => k - (intOf v).toNat)
      case atStart => exact ⟨0, by omega, rfl, hb5, Lib.hid (Mod.refl _ _)⟩
      case round =>
        obtain ⟨mm, hmm, rfl, hb6, HM6⟩ := hrel
        by_cases hlt2 : mm < k
        · obtain ⟨L, hL⟩ : ∃ L, (bys (List.replicate mm y ++ List.replicate (k - mm) 0)).toArray = L := ⟨_, rfl⟩
          have hcell : L[mm]? = some (.int .u8 0) := by
            rw [← hL]
            simp [bys, List.getElem?_append, List.getElem?_replicate]
            omega
          have hset := fill_set k mm y hlt2
          rw [hL] at hset hb6
          have c6 := cell_of hb6 mm
          rw [hcell] at c6
          have z6 := free_of hb6 mm
          have hw8 : IntKind.u8.wrap (i : Int) = (y.toNat : Int) := by rw [IntKind.wrap_u8, HY.out]; omega
          have HB6 := Lib.hid hb6
          have HSET := Lib.hid hset
          clear hb6 hset hcell hL hb5
          go_wp2_with fail
          exact ⟨⟨mm + 1, by omega, by go_num, by rw [heap_setCell_same HB6.out, HSET.out], Lib.hid (HM6.out.setCell _ _ (fun _ => rfl))⟩, by simp [intOf]; omega⟩
        · obtain rfl : mm = k := by omega
          obtain ⟨b, hb⟩ : ∃ b, List.replicate mm y = b := ⟨_, rfl⟩
          have hbl : b.length = mm := by rw [← hb]; simp
          have hrow6 : IsRow (· = gb) wr (.slice (some ⟨gb, 0, Option.none⟩) mm mm) (bys b) := IsRow.ofBlock (S := (· = gb)) (by rw [hb6, Nat.sub_self, List.replicate_zero, List.append_nil, hb]) rfl mm mm (by rw [bys_length, hbl])
          have HM06 : Hid (Mod nil wo wr) := Lib.hid (HM5.out.new HM6.out (fun k h => by rw [h]; omega))
          have HW6 := Lib.hid (HW.out.modNil HM06.out)
          have HMW6 := Lib.hid (HMW.out.thenNil HM06.out)
          have HROW6 := Lib.hid hrow6
          have HBL := Lib.hid hbl
          have hgl6 : gb < wr.heap.size := by have := HM6.out.size; omega
          have HB6 : B ≤ wr.heap.size := Nat.le_trans HB5 HM06.out.size
          obtain ⟨nd, hnd⟩ : ∃ nd, sectorsF mm = nd := ⟨_, rfl⟩
          have hq1 : ((mm : Int) + 24 + 62) / 63 = (nd : Int) := by rw [← hnd]; unfold sectorsF; omega
          have hq2 : (24 + (mm : Int) + 62) / 63 = (nd : Int) := by rw [← hnd]; unfold sectorsF; omega
          have HND : Hid (sectorsF b.length = nd) := Lib.hid (by rw [HBL.out, hnd])
          clear hb hbl hrow6 hb6 hb5 hnd HW HM06 HM6 HM5 HMW
          by_cases hfit : nd ≤ m
          · obtain ⟨d7, hap, hg7, hp7, hi7⟩ := HW6.out.pi.appends HW6.out.good HW6.out.hN b (by rw [HBL.out]; omega) (by have := HW6.out.pi.lim.2.2.2; have := HROOM.out; rw [HND.out]; omega)
            have hcall := jAppend _ _ jb tb db bl bm s d _ mm mm b wr HW6.out.jd HW6.out.limd HROW6.out (fun k h => by rw [h]; exact ⟨hgl6, hgf.2.1, hgf.2.2.1⟩) (Nat.le_refl _)
            rw [hap] at hcall
            obtain ⟨s7, hs7⟩ : ∃ s', ({ s with recs := s.recs ++ [b], at_ := s.at_ + sectorsF b.length } : JS) = s' := ⟨_, rfl⟩
            rw [hs7] at hcall hi7
            have HC := Lib.hid hcall
            have H7 : Hid (Good d7 n ∧ d7.pend = [] ∧ PI d7.curs N s7) := Lib.hid ⟨hg7, hp7, hi7⟩
            have HS7 : Hid (s7.recs = s.recs ++ [b] ∧ s7.at_ = s.at_ + nd ∧ s7.gen = s.gen) := Lib.hid (by rw [← hs7, HND.out]; exact ⟨rfl, rfl, rfl⟩)
            clear hap hg7 hp7 hi7 hcall hs7
            have hfit' : decide ((nd : Int) ≤ (m : Int)) = true := by simp; omega
            go_wp2_with fail
            refine HC.out.mono ?_
            rintro e w7 ⟨rfl, hj7, hm7⟩
            have HW7 := Lib.hid (HW6.out.turned hj7 hm7 H7.out.1 H7.out.2.1 H7.out.2.2 HB6)
            have hrow7 : IsRow (· = gb) w7 (.slice (some ⟨gb, 0, Option.none⟩) mm mm) (bys b) := HROW6.out.mod hm7 (fun k _ h e => by rw [h] at e; exact e.elim hgf.2.1 hgf.2.2.1)
            have HM7 : Hid (Mod nil w w7) := Lib.hid (HMW6.out.new hm7 (fun k h => by have := HB.out; rcases h with h | h; exact (by have := (HW6.out.own k h).1; omega); exact (by omega)))
            have hs7 := hm7.size
            have HROW7 := Lib.hid hrow7
            clear hj7 hm7 hrow7
            obtain ⟨g2, hg2⟩ : ∃ g2, w7.heap.size = g2 := ⟨_, rfl⟩
            have hfew := HW6.out.few
            obtain ⟨p8, c8, w8, hrun8, hw8, hm8⟩ := HW7.out.push (g := gb) (g2 := g2) HROW7.out ⟨hgf.1, by omega, fun h => h.1.elim hgf.2.1 (fun h => by omega), hgf.2.2.1, hgf.2.2.2⟩ hfew (by omega) hg2 32
            rw [HRL.out] at hrun8 hw8
            rw [← HS7.out.1] at hw8
            have HRUN := Lib.hid hrun8
            have HWN := Lib.hid hw8
            have HMWN : Hid (Mod nil w w8) := Lib.hid (HM7.out.new hm8 (fun k h => by have := HB.out; omega))
            have HRLN : Hid (s7.recs.length = r + 1) := Lib.hid (by rw [HS7.out.1, List.length_append, HRL.out]; rfl)
            have HROOMN : Hid (N - s7.at_ = m - nd) := Lib.hid (by rw [HS7.out.2.1]; have := HROOM.out; omega)
            have HGENN : Hid (s7.gen = g) := Lib.hid (by rw [HS7.out.2.2]; exact HGEN.out)
            have hsub : IntKind.i64.wrap ((m : Int) - (nd : Int)) = ((m - nd : Nat) : Int) := by rw [IntKind.wrap_i64]; omega
            have hsub2 : (m : Int) - (nd : Int) = ((m - nd : Nat) : Int) := by omega
            clear hrun8 hw8 hm8 hfew hs7
            go_wp2_with (first | (at_builtin; refine wpList_append_run rfl _ _ _ _ rfl rfl rfl HRUN.out ?_))
            refine (jdRecords HWN.out.jd HWN.out.pi.bod.2 HWN.out.few).mono ?_
            rintro e w11 ⟨p11, c11, rfl, hr11, hm11⟩
            rw [HRLN.out] at hr11 ⊢
            have HW11 := Lib.hid (HWN.out.modNil hm11)
            have HR11 := Lib.hid hr11
            have HM11 := Lib.hid (HMWN.out.thenNil hm11)
            clear hr11 hm11
            go_wp2_with fail
            refine (refLists _ _ _ _ _ _ _ _ _ HR11.out HW11.out.recs (by rw [← HRLN.out]; exact HW11.out.few)).mono ?_
            rw [decide_eq_true rfl]
            rintro e w12 ⟨rfl, n12, hw12⟩
            have hm12 : Mod nil w11 w12 := by rw [hw12]; exact (Mod.refl _ _).drewN _
            have HW12 := Lib.hid (HW11.out.modNil hm12)
            have HM12 := Lib.hid (HM11.out.thenNil hm12)
            clear hm12 hw12
            go_wp2_with fail
            refine (jdRoom HW12.out.jd HW12.out.atle).mono ?_
            rw [HW12.out.half, HROOMN.out]
            rintro e w13 ⟨rfl, hm13⟩
            have HW13 := Lib.hid (HW12.out.modNil hm13)
            have HM13 := Lib.hid (HM12.out.thenNil hm13)
            clear hm13
            go_wp2_with fail
            refine (jdGen HW13.out.jd).mono ?_
            rw [HGENN.out]
            rintro e w14 ⟨rfl, rfl⟩
            go_wp2_with fail
            exact ⟨⟨i + 1, r + 1, m - nd, g, _, _, s7, d7, p8, c8, by omega, by go_num, rfl, rfl, rfl, by omega, by omega, HRLN, HROOMN, HGENN, HW13, HM13⟩, by simp [intOf]; omega⟩
          · have happ := HW6.out.pi.full HW6.out.good HW6.out.hN b (by rw [HBL.out]; omega) (by have := HW6.out.pi.lim.2.2.2; have := HROOM.out; rw [HND.out]; omega)
            have hcall := jAppend _ _ jb tb db bl bm s d _ mm mm b wr HW6.out.jd HW6.out.limd HROW6.out (fun k h => by rw [h]; exact ⟨hgl6, hgf.2.1, hgf.2.2.1⟩) (Nat.le_refl _)
            rw [happ] at hcall
            have HC := Lib.hid hcall
            have hw8 : IntKind.u8.wrap (i : Int) = (y.toNat : Int) := by rw [IntKind.wrap_u8, HY.out]; omega
            have hfit' : decide ((nd : Int) ≤ (m : Int)) = false := by simp; omega
            clear happ hcall
            go_wp2_with fail
            refine HC.out.mono ?_
            rintro e w7 ⟨rfl, hj7, hm7⟩
            have HW7 := Lib.hid ((HW6.out.turned hj7 hm7 HW6.out.good HW6.out.pend HW6.out.pi HB6).none)
            have HM7 : Hid (Mod nil w w7) := Lib.hid (HMW6.out.new hm7 (fun k h => by have := HB.out; rcases h with h | h; exact (by have := (HW6.out.own k h).1; omega); exact (by omega)))
            have hB7 : B ≤ w7.heap.size := Nat.le_trans HB6 hm7.size
            clear hj7 hm7 HC
            go_wp2_with fail
            obtain ⟨g3, hg3⟩ : ∃ g3, w7.heap.size = g3 := ⟨_, rfl⟩
            (try rw [hg3])
            generalize hw8a : World.alloc w7 _ = w8
            have hm8 : Mod nil w7 w8 := by rw [← hw8a]; exact (Mod.refl _ _).alloc _
            have hrow8 : IsRow (· = g3) w8 (.slice (some ⟨g3, 0, Option.none⟩) 3 3) (bys [1, 2, y]) := IsRow.ofBlock (S := (· = g3)) (by rw [← hw8a, ← hg3]; exact heap_alloc_new _ _) rfl 3 3 rfl
            have hgl3 : g3 < w8.heap.size := by rw [← hw8a, ← hg3]; simp
            have hgf3 : ¬ ((F g3 ∨ wr.heap.size ≤ g3) ∧ g3 < w7.heap.size) ∧ g3 ≠ tb := ⟨fun h => by omega, fun h => by have := HW7.out.jd.tab.lt; omega⟩
            have HW8 := Lib.hid (HW7.out.modNil hm8)
            have HM8 := Lib.hid (HM7.out.thenNil hm8)
            have HR8 := Lib.hid hrow8
            have hB8 : B ≤ w8.heap.size := Nat.le_trans hB7 hm8.size
            clear hw8a hm8 hrow8 hg3
            obtain ⟨d9, hap, hg9, hp9, hi9⟩ := HW8.out.pi.compacts HW8.out.good HW8.out.hN [1, 2, y] (by simp) (by unfold sectorsF; simp; omega) (by have := HGEN.out; omega)
            have hcall := jCompact _ _ jb tb db bl bm s d _ 3 3 [1, 2, y] w8 HW8.out.jd HW8.out.limd HR8.out (fun k h => by rw [h]; exact ⟨hgl3, hgf3⟩) (Nat.le_refl _)
            rw [hap] at hcall
            obtain ⟨s9, hs9⟩ : ∃ s', ({ s with half := 1 - s.half, gen := s.gen + 1, has := true, pict := [1, 2, y], recs := [], at_ := sectorsF [1, 2, y].length } : JS) = s' := ⟨_, rfl⟩
            rw [hs9] at hcall hi9
            have HC := Lib.hid hcall
            have H9 : Hid (Good d9 n ∧ d9.pend = [] ∧ PI d9.curs N s9) := Lib.hid ⟨hg9, hp9, hi9⟩
            have HS9 : Hid (s9.recs = [] ∧ s9.at_ = 1 ∧ s9.gen = s.gen + 1 ∧ s9.has = true ∧ s9.pict = [1, 2, y]) := Lib.hid (by rw [← hs9]; exact ⟨rfl, by simp [sectorsF], rfl, rfl, rfl⟩)
            clear hap hg9 hp9 hi9 hcall hs9
            refine HC.out.mono ?_
            rintro e w9 ⟨rfl, hj9, hm9⟩
            have HW9 := Lib.hid (HW8.out.turned hj9 hm9 H9.out.1 H9.out.2.1 H9.out.2.2 hB8)
            have HM9 : Hid (Mod nil w w9) := Lib.hid (HM8.out.new hm9 (fun k h => by have := HB.out; rcases h with h | h; exact (by have := (HW8.out.own k h).1; omega); exact (by omega)))
            have hsub : IntKind.i64.wrap ((N : Int) - 1) = ((N - 1 : Nat) : Int) := by rw [IntKind.wrap_i64]; omega
            have hsub2 : (N : Int) - 1 = ((N - 1 : Nat) : Int) := by omega
            clear hj9 hm9 HC
            go_wp2_with fail
            refine (jdPicture HW9.out.jd (by rw [HS9.out.2.2.2.2]; simp)).mono ?_
            rw [HS9.out.2.2.2.2, HS9.out.2.2.2.1]
            rintro e w10 ⟨p10, c10, rfl, hv10, hm10⟩
            have HR10 := Lib.hid hv10.row
            have HW10 := Lib.hid (HW9.out.modNil hm10)
            have HM10 := Lib.hid (HM9.out.thenNil hm10)
            clear hv10 hm10
            simp only [show ([1, 2, y] : List UInt8).length = 3 from rfl] at HR10 ⊢
            go_wp2_with fail
            obtain ⟨g4, hg4⟩ : ∃ g4, w10.heap.size = g4 := ⟨_, rfl⟩
            (try rw [hg4])
            generalize hw11a : World.alloc w10 _ = w10b
            have hm10b : Mod nil w10 w10b := by rw [← hw11a]; exact (Mod.refl _ _).alloc _
            have hrow10 : IsRow (· = g4) w10b (.slice (some ⟨g4, 0, Option.none⟩) 3 3) (bys [1, 2, y]) := IsRow.ofBlock (S := (· = g4)) (by rw [← hw11a, ← hg4]; exact heap_alloc_new _ _) rfl 3 3 rfl
            have HR10b := Lib.hid hrow10
            have HR10c := Lib.hid (HR10.out.modNil hm10b)
            have HW10b := Lib.hid (HW10.out.modNil hm10b)
            have HMWN := Lib.hid (HM10.out.thenNil hm10b)
            clear hw11a hm10b hrow10 hg4
            refine (refBytesW _ _ _ _ _ _ w10b HR10c.out HR10b.out).mono ?_
            rw [decide_eq_true rfl]
            rintro e w10c ⟨rfl, rfl⟩
            have hl9 : ([] : List (List UInt8)) = s9.recs := HS9.out.1.symm
            have hwn := HW10b.out
            rw [hl9] at hwn
            have HWN := Lib.hid hwn
            have HRLN : Hid (s9.recs.length = 0) := Lib.hid (by rw [HS9.out.1]; rfl)
            have HROOMN : Hid (N - s9.at_ = N - 1) := Lib.hid (by rw [HS9.out.2.1])
            have HGENN : Hid (s9.gen = g + 1) := Lib.hid (by rw [HS9.out.2.2.1, HGEN.out])
            clear hl9 hwn
            go_wp2_with fail
            refine (jdRecords HWN.out.jd HWN.out.pi.bod.2 HWN.out.few).mono ?_
            rintro e w11 ⟨p11, c11, rfl, hr11, hm11⟩
            rw [HRLN.out] at hr11 ⊢
            have HW11 := Lib.hid (HWN.out.modNil hm11)
            have HR11 := Lib.hid hr11
            have HM11 := Lib.hid (HMWN.out.thenNil hm11)
            clear hr11 hm11
            go_wp2_with fail
            refine (refLists _ _ _ _ _ _ _ _ _ HR11.out HW11.out.recs (by rw [← HRLN.out]; exact HW11.out.few)).mono ?_
            rw [decide_eq_true rfl]
            rintro e w12 ⟨rfl, n12, hw12⟩
            have hm12 : Mod nil w11 w12 := by rw [hw12]; exact (Mod.refl _ _).drewN _
            have HW12 := Lib.hid (HW11.out.modNil hm12)
            have HM12 := Lib.hid (HM11.out.thenNil hm12)
            clear hm12 hw12
            go_wp2_with fail
            refine (jdRoom HW12.out.jd HW12.out.atle).mono ?_
            rw [HW12.out.half, HROOMN.out]
            rintro e w13 ⟨rfl, hm13⟩
            have HW13 := Lib.hid (HW12.out.modNil hm13)
            have HM13 := Lib.hid (HM12.out.thenNil hm13)
            clear hm13
            go_wp2_with fail
            refine (jdGen HW13.out.jd).mono ?_
            rw [HGENN.out]
            rintro e w14 ⟨rfl, rfl⟩
            go_wp2_with fail
            exact ⟨⟨i + 1, 0, N - 1, g + 1, _, _, s9, d9, Option.none, 0, by omega, by go_num, rfl, rfl, by go_num, by omega, by omega, HRLN, HROOMN, HGENN, HW13, HM13⟩, by simp [intOf]; omega⟩
    · obtain rfl : i = len := by omega
      have hB6 : B ≤ wr.heap.size := by have := HMW.out.size; have := HB.out; omega
      go_wp2_with fail
      refine (jOpen _ tb db bl bm d wr HW.out.jd.dt).mono ?_
      rintro e w5 ⟨jb2, rfl, -, hj5, hm5⟩
      rw [HW.out.pi.opens HW.out.good HN.out] at hj5
      have HW5 := Lib.hid (HW.out.turned hj5 (hm5.mono (fun k _ h => .inr h)) HW.out.good HW.out.pend HW.out.pi hB6)
      have HM5 : Hid (Mod nil w w5) := Lib.hid (HMW.out.new hm5 (fun k h => by have := HB.out; omega))
      clear hj5 hm5 HW HMW HMK HROW
      go_wp2_with fail
      refine (jFirst w5).mono ?_
      rintro e w6 ⟨rfl, hm6⟩
      have HWN := Lib.hid (HW5.out.modNil hm6)
      have HMWN := Lib.hid (HM5.out.thenNil hm6)
      have HRLN := HRL
      have HROOMN := HROOM
      have HGENN := HGEN
      clear hm6
      go_wp2_with fail
      refine (jdRecords HWN.out.jd HWN.out.pi.bod.2 HWN.out.few).mono ?_
      rintro e w11 ⟨p11, c11, rfl, hr11, hm11⟩
      rw [HRLN.out] at hr11 ⊢
      have HW11 := Lib.hid (HWN.out.modNil hm11)
      have HR11 := Lib.hid hr11
      have HM11 := Lib.hid (HMWN.out.thenNil hm11)
      clear hr11 hm11
      go_wp2_with fail
      refine (refLists _ _ _ _ _ _ _ _ _ HR11.out HW11.out.recs (by rw [← HRLN.out]; exact HW11.out.few)).mono ?_
      rw [decide_eq_true rfl]
      rintro e w12 ⟨rfl, n12, hw12⟩
      have hm12 : Mod nil w11 w12 := by rw [hw12]; exact (Mod.refl _ _).drewN _
      have HW12 := Lib.hid (HW11.out.modNil hm12)
      have HM12 := Lib.hid (HM11.out.thenNil hm12)
      clear hm12 hw12
      go_wp2_with fail
      refine (jdGen HW12.out.jd).mono ?_
      rw [HGENN.out]
      rintro e w14 ⟨rfl, rfl⟩
      go_wp2_with fail
      refine (jdRoom HW12.out.jd HW12.out.atle).mono ?_
      rw [HW12.out.half, HROOMN.out]
      rintro e w13 ⟨rfl, hm13⟩
      have HW13 := Lib.hid (HW12.out.modNil hm13)
      have HM13 := Lib.hid (HM12.out.thenNil hm13)
      clear hm13
      go_wp2_with fail
      refine (jdPending HW13.out.jd).mono ?_
      rw [HW13.out.pend, show ((([] : List (Int × List UInt8)).length : Nat) : Int) = 0 from rfl]
      rintro e w15 ⟨rfl, rfl⟩
      have HE := Lib.hid (HPOST.out _ _ ⟨rfl, HM13.out⟩)
      go_wp2_with fail
      exact HE.out
set_option maxRecDepth 100000 in
theorem walkJournalFull (v0 v1 : Value) (W : World) (r0 : Rd W 3 v0) (r1 : Rd W 22 v1) :
    Calls Try.prog 3 #[v0, v1] W fun e w' => e = .returned (.bool true) ∧ Below W.heap.size W w' := by
  obtain ⟨n, rfl, _⟩ := r0.int Try.underlying3
  obtain ⟨l, hl, hn, _⟩ := r1.intRow Try.underlying22 Try.underlying3 (by kernel_rfl)
  obtain ⟨p, c, hv, hc⟩ := id hl
  rw [List.length_map] at hv
  subst hv
  by_cases hbad : fullBad n l.length
  · exact (lawJFull_bad n p l.length c W hbad (by unfold maxLen at hn; omega)).mono fun e w' ⟨h1, h2⟩ => ⟨h1, h2.below⟩
  · unfold fullBad at hbad
    obtain ⟨n, rfl⟩ := Int.eq_ofNat_of_zero_le (by omega : 0 ≤ n)
    exact (lawJFull n p l.length c l W (by omega) (by omega) (by omega) hl).mono fun e w' ⟨h1, h2⟩ => ⟨h1, h2.below⟩
end Go.Proofs.Ytlkphkkjpjlnhaa

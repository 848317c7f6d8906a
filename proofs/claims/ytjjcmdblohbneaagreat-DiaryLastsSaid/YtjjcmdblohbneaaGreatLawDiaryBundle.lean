/- cfllaw23.DiaryBundle: a diary's bundle is read as its entries, and bears its head; opened again it is the same. (Printed by wip/tools/gen_lawdiarybundle.py.) -/
import Derived.Test.YtjjcmdblohbneaaGreatLawDiarySmall
import Derived.Test.YtjjcmdblohbneaaGreatImport
namespace Go.Proofs.YtjjcmdblohbneaaGreat
open Go.ChangeShapes Go.WideShapes Go.ChangeAt Go.RowKit
theorem Rc.bytes {w : World} {t : TypeId} {cs : List Value} (ht : Tryz.prog.underlying t = some (.slice 5)) (h : Rc w t cs) : ∃ (p : Option Addr) (len cap : Nat) (l : List UInt8), cs = [.slice p len cap] ∧ len ≤ cap ∧ cap ≤ maxLen ∧ l.length = len ∧ IsRow (· < w.heap.size) w (.slice p len cap) (bys l) := by
  have hc : Tryz.prog.cellsOf 5 = 1 := by kernel_rfl
  obtain ⟨p, len, cap, hv, hl, hm, hall⟩ := h.slice ht (by omega)
  have : ∀ i, i < len → ∃ x : UInt8, ∃ b off, p = some ⟨b, off, none⟩ ∧ b < w.heap.size ∧ w.cell? ⟨b, off + i, none⟩ = some (.int .u8 x.toNat) := by
    intro i hi
    obtain ⟨b, off, cs', hp, hb, hlen, hcell, hrc⟩ := hall i hi
    obtain ⟨x, rfl, hx⟩ := hrc.int Tryz.underlying5
    have hr : 0 ≤ x ∧ x ≤ 255 := by simpa [Lit.wf, IntKind.min, IntKind.max, IntKind.bits, IntKind.signed] using hx
    refine ⟨UInt8.ofNat x.toNat, b, off, hp, hb, ?_⟩
    have := hcell 0 (by simp)
    rw [show ((UInt8.ofNat x.toNat).toNat : Int) = x by simp; omega]
    simpa [hc] using this
  obtain ⟨l, hlen, hP⟩ := choose_list this
  refine ⟨p, len, cap, l, hv, hl, hm, hlen, ⟨p, cap, by rw [bys_length, hlen], fun i hi => ?_⟩⟩
  rw [bys_length] at hi
  obtain ⟨b, off, hp, hb, hcell⟩ := hP i hi
  refine ⟨b, off, hp, hb, hb, ?_⟩
  rw [hcell, bys_getD _ _ hi]
  simp [hi]
set_option maxRecDepth 100000 in
theorem Rd.entries {w : World} {v : Value} (h : Rd w 33 v) : ∃ (p : Option Addr) (len cap : Nat) (l : List En), v = .slice p len cap ∧ l.length = len ∧ len ≤ maxLen ∧ IsEns (· < w.heap.size) w (.slice p len cap) l ∧ ∀ e ∈ l, e.b.length ≤ maxLen := by
  have hc : Tryz.prog.cellsOf 36 = 2 := by kernel_rfl
  obtain ⟨p, len, cap, rfl, hl, hm, hall⟩ := h.slice Tryz.underlying33 (by omega)
  have : ∀ i, i < len → ∃ x : En × Value, ∃ b off, p = some ⟨b, off, none⟩ ∧ b < w.heap.size ∧ w.cell? ⟨b, off + i * 2, none⟩ = some (.int .i64 x.1.k) ∧ w.cell? ⟨b, off + i * 2 + 1, none⟩ = some x.2 ∧ IsRow (· < w.heap.size) w x.2 (bys x.1.b) ∧ x.1.b.length ≤ maxLen := by
    intro i hi
    obtain ⟨b, off, cs', hp, hb, hlen, hcell, hrc⟩ := hall i hi
    rw [hc] at hlen hcell
    obtain ⟨_, hf⟩ := hrc.struct Tryz.underlying36
    have hi1 : Tryz.prog.cellsOf 3 = 1 := by kernel_rfl
    have hi2 : Tryz.prog.cellsOf 34 = 1 := by kernel_rfl
    match cs', hlen with
    | [c0, c1], _ =>
      have f0 : Rc w 3 [c0] := by simpa [hi1] using hf 0 _ rfl
      have f1 : Rc w 34 [c1] := by simpa [hi2] using hf 1 _ rfl
      obtain ⟨n0, h0, _⟩ := f0.int Tryz.underlying3
      obtain ⟨p1, l1, c1', bl, h1, h2, h3, h4, h5⟩ := f1.bytes Tryz.underlying34
      simp at h0 h1
      subst h0; subst h1
      refine ⟨(⟨n0, bl⟩, .slice p1 l1 c1'), b, off, hp, hb, ?_, ?_, h5, by simp only; omega⟩
      · have := hcell 0 (by simp); simpa using this
      · have := hcell 1 (by simp); simpa using this
  obtain ⟨xs, hlen, hP⟩ := choose_list this
  refine ⟨p, len, cap, xs.map (·.1), rfl, by rw [List.length_map, hlen], by omega, ⟨xs.map (·.2), ⟨p, cap, by rw [List.length_map, hlen], fun k hk => ?_⟩, ?_⟩, fun e he => ?_⟩
  · have hlv : (xs.map (·.2)).length = (xs.map (·.1)).length := by simp
    rw [ensC_length _ _ hlv, List.length_map, hlen] at hk
    have hi : k / 2 < xs.length := by omega
    obtain ⟨b, off, h1, h2, h3, h4, -⟩ := hP (k / 2) hi
    refine ⟨b, off, h1, h2, h2, ?_⟩
    obtain ⟨g0, g1⟩ := ensC_get (xs.map (·.1)) (xs.map (·.2)) (k / 2) (by simpa using hi) (by simpa using hi)
    simp only [List.getElem_map] at g0 g1
    rcases (show k = 2 * (k / 2) ∨ k = 2 * (k / 2) + 1 by omega) with e | e
    · rw [show off + k = off + k / 2 * 2 by omega, h3, List.getD_eq_getElem?_getD, show (ensC (xs.map (·.1)) (xs.map (·.2)))[k]? = some _ from (by rw [e]; exact g0)]; rfl
    · rw [show off + k = off + k / 2 * 2 + 1 by omega, h4, List.getD_eq_getElem?_getD, show (ensC (xs.map (·.1)) (xs.map (·.2)))[k]? = some _ from (by rw [e]; exact g1)]; rfl
  · have : ∀ ys : List (En × Value), (∀ i, (hi : i < ys.length) → IsRow (· < w.heap.size) w ys[i].2 (bys ys[i].1.b)) → Each2 (fun x (e : En) => IsRow (· < w.heap.size) w x (bys e.b)) (ys.map (·.2)) (ys.map (·.1)) := by
      intro ys
      induction ys with
      | nil => intro _; trivial
      | cons y ys ih =>
        intro hy
        exact ⟨hy 0 (by simp), ih (fun i hi => by have := hy (i + 1) (by simpa using hi); rw [List.getElem_cons_succ] at this; exact this)⟩
    exact this xs (fun i hi => by obtain ⟨b, off, h1, h2, h3, h4, h5, -⟩ := hP i hi; exact h5)
  · obtain ⟨x, hx, rfl⟩ := List.mem_map.1 he
    obtain ⟨i, hi, rfl⟩ := List.getElem_of_mem hx
    obtain ⟨b, off, h1, h2, h3, h4, h5, h6⟩ := hP i hi
    exact h6
/-- the sum that the statement reckons, of the first i entries -/
def bunSum (l : List En) (i : Nat) : Nat := ((l.take i).map (fun e => min e.b.length 50001)).sum
theorem bunSum_succ (l : List En) (i : Nat) (h : i < l.length) : bunSum l (i + 1) = bunSum l i + min l[i].b.length 50001 := by
  unfold bunSum
  rw [List.take_succ_eq_append_getElem h, List.map_append, List.sum_append]; simp
theorem bunSum_le (l : List En) : ∀ i, bunSum l i ≤ 50001 * i
  | 0 => by simp [bunSum]
  | i + 1 => by
    have := bunSum_le l i
    rcases Nat.lt_or_ge i l.length with h | h
    · rw [bunSum_succ l i h]; omega
    · have e : bunSum l (i + 1) = bunSum l i := by unfold bunSum; rw [List.take_of_length_le (by omega), List.take_of_length_le (by omega)]
      omega
theorem bunSum_each (l : List En) (h : bunSum l l.length ≤ 50000) : ∀ e ∈ l, e.b.length ≤ 50000 := by
  unfold bunSum at h
  rw [List.take_length] at h
  intro e he
  have h1 : ∀ (m : List En), e ∈ m → min e.b.length 50001 ≤ (m.map (fun e => min e.b.length 50001)).sum := by
    intro m
    induction m with
    | nil => intro h; cases h
    | cons a m ih =>
      intro hm
      rw [List.map_cons, List.sum_cons]
      rcases List.mem_cons.1 hm with rfl | hm
      · omega
      · have := ih hm; omega
  have := h1 l he
  omega
theorem IsY.log2 {F : Nat → Prop} {w : World} {yb tb db bl bm : Nat} {y : YS} (h : IsY F w yb tb db bl bm y) : ∃ gb L, w.cell? ⟨yb, 0, none⟩ = some (.pointer (some ⟨gb, 0, none⟩)) ∧ yb < w.heap.size ∧ ¬ yb = tb ∧ IsLog L w gb tb y.l ∧ ∀ k, L k → ¬ k = tb := by
  obtain ⟨gb, jb, J, L, h1, h2, h3, h4, h5, h6, h7⟩ := h.ex
  have c0 := cell_of h1 0
  simp only [List.getElem?_toArray, List.getElem?_cons_zero] at c0
  exact ⟨gb, L, c0, heap_lt h1, h3, h5, fun k hk => (h7 k hk).2.1⟩
theorem beN_layC2 (n : Nat) (h : n ≤ 65535) : beN (layC n 2 2) = n := by
  simp [layC, List.range_succ, beN, byteAt_toNat]
  omega
theorem bodyB_le (l : List En) (h : ∀ e ∈ l, 0 ≤ e.k ∧ e.k ≤ 255 ∧ e.b.length ≤ 60000) : (bodyB l).length ≤ 60005 * l.length := by
  induction l with
  | nil => simp [bodyB]
  | cons a l ih =>
    have h1 := ih (fun e he => h e (List.mem_cons_of_mem _ he))
    have h2 := h a (List.mem_cons_self ..)
    have h3 : bodyB (a :: l) = entStart a.k.toNat a.b.length ++ a.b ++ bodyB l := by simp [bodyB]
    rw [h3, List.length_append, List.length_append, entStart_length, List.length_cons]
    omega
theorem exportF_take (l : List En) : (exportF l).take 32 = headH l := by
  have hh := headH_length l
  rw [exportF, List.append_assoc, List.take_append_of_le_length (by omega), List.take_of_length_le (by omega)]
theorem importN_body (rest : List UInt8) : ∀ (l acc : List En), (∀ e ∈ l, 0 ≤ e.k ∧ e.k ≤ 255 ∧ e.b.length ≤ 60000) → importN l.length (bodyB l ++ rest) acc = some (acc ++ l, rest)
  | [], acc, _ => by simp [importN, bodyB]
  | e :: l, acc, h => by
    obtain ⟨h0, h1, h2⟩ := h e (List.mem_cons_self ..)
    obtain ⟨k, b⟩ := e
    simp only at h0 h1 h2
    obtain ⟨n, rfl⟩ := Int.eq_ofNat_of_zero_le h0
    have hb : bodyB (⟨(n : Nat), b⟩ :: l) ++ rest = layC n 1 1 ++ (layC b.length 4 4 ++ (b ++ (bodyB l ++ rest))) := by simp [bodyB, entStart]
    obtain ⟨Z, hZ⟩ : ∃ Z, bodyB l ++ rest = Z := ⟨_, rfl⟩
    rw [hb, hZ]
    have l1 : (layC n 1 1).length = 1 := layC_length ..
    have l4 : (layC b.length 4 4).length = 4 := layC_length ..
    have t1 : List.take 1 (layC n 1 1 ++ (layC b.length 4 4 ++ (b ++ Z))) = layC n 1 1 := by rw [List.take_append_of_le_length (by omega), List.take_of_length_le (by omega)]
    have d1 : List.drop 1 (layC n 1 1 ++ (layC b.length 4 4 ++ (b ++ Z))) = layC b.length 4 4 ++ (b ++ Z) := by rw [List.drop_append_of_le_length (by omega), List.drop_of_length_le (by omega), List.nil_append]
    have t4 : List.take 4 (layC b.length 4 4 ++ (b ++ Z)) = layC b.length 4 4 := by rw [List.take_append_of_le_length (by omega), List.take_of_length_le (by omega)]
    have d5 : List.drop 5 (layC n 1 1 ++ (layC b.length 4 4 ++ (b ++ Z))) = b ++ Z := by
      rw [show (5 : Nat) = 1 + 4 from rfl, ← List.drop_drop, d1, List.drop_append_of_le_length (by omega), List.drop_of_length_le (by omega), List.nil_append]
    have d6 : List.drop (5 + b.length) (layC n 1 1 ++ (layC b.length 4 4 ++ (b ++ Z))) = Z := by rw [← List.drop_drop, d5, List.drop_left]
    rw [List.length_cons, importN, t1, d1, t4, beN_layC4 _ (by omega), beN_layC1 n (by omega), d5, d6, List.take_left, if_neg (by simp [l1, l4]; omega), ← hZ, importN_body rest l _ (fun x hx => h x (List.mem_cons_of_mem _ hx))]
    simp
theorem importF_exportF (l : List En) (h : ∀ e ∈ l, 0 ≤ e.k ∧ e.k ≤ 255 ∧ e.b.length ≤ 60000) (hn : l.length ≤ 65535) : importF (exportF l) = (l, 0) := by
  have hh := headH_length l
  have l2 : (layC l.length 2 2).length = 2 := layC_length ..
  have t32 : (exportF l).take 32 = headH l := by rw [exportF, List.append_assoc, List.take_append_of_le_length (by omega), List.take_of_length_le (by omega)]
  have d32 : (exportF l).drop 32 = layC l.length 2 2 ++ bodyB l := by rw [exportF, List.append_assoc, List.drop_append_of_le_length (by omega), List.drop_of_length_le (by omega), List.nil_append]
  have d34 : (exportF l).drop 34 = bodyB l := by rw [show (34 : Nat) = 32 + 2 from rfl, ← List.drop_drop, d32, List.drop_append_of_le_length (by omega), List.drop_of_length_le (by omega), List.nil_append]
  have t2 : ((exportF l).drop 32).take 2 = layC l.length 2 2 := by rw [d32, List.take_append_of_le_length (by omega), List.take_of_length_le (by omega)]
  have hb := importN_body [] l [] h
  rw [List.append_nil, List.nil_append] at hb
  unfold importF
  rw [if_neg (by rw [exportF_length]; omega), t2, beN_layC2 _ hn, d34, hb]
  simp only [importR]
  rw [if_neg (by simp), t32, if_pos rfl]
set_option maxRecDepth 100000 in
set_option maxHeartbeats 8000000 in
theorem lawDBundle (ps : Option Addr) (len cs : Nat) (l : List En) (w : World) (hl : IsEns (· < w.heap.size) w (.slice ps len cs) l) (hm : len ≤ 9223372036854775807) (hbm : ∀ e ∈ l, e.b.length ≤ maxLen) :
    Calls Tryz.prog 4 #[.slice ps len cs] w fun e w' => e = .returned (.bool true) ∧ Mod nil w w' := by
  refine (?_ : ∀ Post : Ending → World → Prop, Hid (∀ e w', (e = .returned (.bool true) ∧ Mod nil w w') → Post e w') → Calls Tryz.prog 4 #[.slice ps len cs] w Post) _ (Lib.hid (fun _ _ h => h))
  intro Post HPOST
  have hll : l.length = len := by obtain ⟨_, _, h⟩ := hl.form; simp only [Value.slice.injEq] at h; exact h.2.1.symm
  have HLL := Lib.hid hll
  have HL := Lib.hid hl
  have HBM := Lib.hid hbm
  have hz := hl.form
  clear hl hll hbm hz
  go_enter Tryz.func4, Tryz.ntmps4
  go_wp2_with fail
  refine (yFirst w).mono ?_
  rintro e w1 ⟨rfl, hm1⟩
  have HM1 := Lib.hid hm1
  have HL1 := Lib.hid (HL.out.modNil hm1)
  clear hm1
  go_wp2_with fail
  go_loop [3, 4] (fun v3 v4 => ∃ i s : Nat, i ≤ len ∧ i ≤ 50 ∧ v4 = .int .i64 i ∧ v3 = .int .i64 s ∧ Hid (bunSum l i = s)) (fun _ v => 50 - (intOf v).toNat)
  case atStart => exact ⟨0, 0, by omega, by omega, rfl, rfl, Lib.hid (by simp [bunSum])⟩
  case round =>
    obtain ⟨i, s, hi, hi50, rfl, rfl, HS⟩ := hrel
    have hsb : s ≤ 2500050 := by rw [← HS.out]; have := bunSum_le l i; omega
    by_cases hlt : i < len ∧ i < 50
    · obtain ⟨hlt1, hlt2⟩ := hlt
      have hil : i < l.length := by rw [HLL.out]; exact hlt1
      obtain ⟨ba, oa, xa, rfl, -, hal, k0, k1, hxa⟩ := HL1.out.at i hil
      have hsu := bunSum_succ l i hil
      have hbx := HBM.out _ (List.getElem_mem hil)
      obtain ⟨ee, hee⟩ : ∃ ee, l[i] = ee := ⟨_, rfl⟩
      rw [hee] at k0 hxa hsu hbx
      obtain ⟨pa, ca, rfl, -⟩ := id hxa
      rw [bys_length] at k1
      obtain ⟨q, hq⟩ : ∃ q, ee.b.length = q := ⟨_, rfl⟩
      rw [hq] at k1 hsu hbx
      unfold maxLen at hbx
      obtain ⟨x, hx⟩ : ∃ x : Nat, min q 50001 = x := ⟨_, rfl⟩
      have hx1 : x ≤ 50001 := by omega
      have hmin : min (q : Int) 50001 = (x : Int) := by omega
      rw [hx, HS.out] at hsu
      have HSU := Lib.hid hsu
      clear hxa hsu hee hq hx
      go_wp2_with fail
      go_round
      case rel => exact ⟨i + 1, s + x, by omega, by omega, by go_num, by go_num, HSU⟩
      case measure => simp [intOf]; omega
    · by_cases hbad : 50 < len ∨ 50000 < s
      · rcases (show i < len ∨ (¬ i < len) by omega) with h1 | h1
        all_goals rcases (show (50 < len) ∨ (len ≤ 50 ∧ 50000 < s) by omega) with h2 | ⟨h2, h3⟩
        all_goals (first | (exfalso; omega) | skip)
        all_goals
          have hge : 50 ≤ i ∨ len ≤ i := by omega
          clear hlt hbad
          go_wp2_with fail
          refine (yFirst w1).mono ?_
          rintro e w2 ⟨rfl, hm2⟩
          have HE := Lib.hid (HPOST.out _ w2 ⟨rfl, HM1.out.thenNil hm2⟩)
          clear hm2
          go_wp2_with fail
          exact HE.out
      · have hil : i = len := by omega
        have h50 : len ≤ 50 := by omega
        have hs5 : s ≤ 50000 := by omega
        have HBS : Hid (∀ e ∈ l, e.b.length ≤ 50000) := Lib.hid (bunSum_each l (by rw [HLL.out, ← hil, HS.out]; exact hs5))
        subst hil
        clear hlt hbad HS
        go_wp2_with fail
        refine (shaNewTable w1).mono ?_
        rintro e w2 ⟨tb, rfl, ht2, htb, hm2⟩
        have HT2 := Lib.hid ht2
        have HM2 := Lib.hid (HM1.out.thenNil hm2)
        have htb0 : w.heap.size ≤ tb := Nat.le_trans HM1.out.size htb
        clear ht2 htb hm2
        go_wp2_with fail
        refine (diskNew 3000 w2 (by omega) (by omega)).mono ?_
        rintro e w3 ⟨db, bl, bm, C, rfl, hd3, hfoot, hm3⟩
        have HY0 : Hid (YI 3000 1500 ⟨JS.fresh (freshDisk 3000), freshDisk 3000, []⟩) := Lib.hid (YI.fresh 3000 1500 rfl (by omega))
        obtain ⟨d, hd⟩ : ∃ d, freshDisk 3000 = d := ⟨_, rfl⟩
        rw [hd] at hd3 HY0
        have HDT : Hid (IsDT (fun k => w2.heap.size ≤ k) w3 tb db bl bm d) := Lib.hid (IsDT.of hd3 (HT2.out.mod hm3 (not_nil _)) (fun k hk _ => ⟨hfoot k hk, by have := hfoot k hk; have := HT2.out.lt; omega⟩))
        have HM3 := Lib.hid (HM2.out.thenNil hm3)
        have h23 := hm3.size
        clear hd hd3 hfoot hm3
        go_wp2_with fail
        refine (diaryOpen_ok HY0.out _ tb db bl bm w3 HDT.out).mono ?_
        rintro e w4 ⟨yb, hyb, rfl, hy4, hm4⟩
        obtain ⟨B, hB⟩ : ∃ B, w.heap.size = B := ⟨_, rfl⟩
        rw [hB] at htb0
        have HB := Lib.hid hB
        have HW4 : Hid (DW B (fun k => w2.heap.size ≤ k ∧ k < w4.heap.size) (fun _ => False) w4 yb tb db bl bm ⟨JS.fresh d, d, []⟩ (.slice Option.none 0 0) 0 [] 3000 1500) := Lib.hid
          ⟨hy4.mono (fun k hk h => ⟨h.elim id (fun h => Nat.le_trans h23 h), hk⟩), fun k hk => ⟨by have := HM2.out.size; omega, hk.2⟩, IsEnts.nil _ _, fun _ h => h.elim, fun k hk => by simp [Value.ownBlock] at hk, htb0, HY0.out⟩
        have HM4 := Lib.hid (HM3.out.new hm4 (fun k h => by rw [h]; omega))
        clear hB hy4 hm4 hyb h23
        go_wp2_with fail
        go_loopw [10, 11] (fun v10 v11 wr => ∃ (j m : Nat) (F R : Nat → Prop) (y : YS) (dl : List En) (q : Option Addr) (c : Nat), j ≤ i ∧ v11 = .int .i64 j ∧ v10 = .slice q m c ∧ m ≤ j ∧ Hid (y.l = dl) ∧ Hid (DW B F R wr yb tb db bl bm y (.slice q m c) m dl 3000 1500) ∧ Hid (Mod nil w wr)) (fun _ v _ => i - (intOf v).toNat)
        case atStart => exact ⟨0, 0, _, _, _, [], Option.none, 0, by omega, rfl, rfl, by omega, Lib.hid rfl, HW4, HM4⟩
        case round =>
          obtain ⟨j, m, F, R, y, dl, q, c, hj, rfl, rfl, hmj, HDL, HW, HMW⟩ := hrel
          have hBr : B ≤ wr.heap.size := by have := HMW.out.size; have := HB.out; omega
          have hm50 : m ≤ 50 := by omega
          by_cases hlt : j < i
          · have hil : j < l.length := by rw [HLL.out]; exact hlt
            obtain ⟨ba, oa, xa, rfl, hTa, hal, k0, k1, hxa⟩ := (HL.out.modNil HMW.out).at j hil
            have hbs := HBS.out _ (List.getElem_mem hil)
            obtain ⟨ee, hee⟩ : ∃ ee, l[j] = ee := ⟨_, rfl⟩
            rw [hee] at k0 hxa hbs
            obtain ⟨kz, bx⟩ := ee
            simp only at k0 hxa hbs
            obtain ⟨px, cx, rfl, -⟩ := id hxa
            rw [bys_length] at k1 hxa
            obtain ⟨nx, hnx⟩ : ∃ nx, bx.length = nx := ⟨_, rfl⟩
            rw [hnx] at k1 hxa hbs
            have HNX := Lib.hid hnx
            have HRX := Lib.hid hxa
            have hTB : ∀ k, k < w.heap.size → k < wr.heap.size ∧ ¬ F k ∧ k ≠ tb := fun k hk => ⟨by have := HB.out; omega, fun h => by have := (HW.out.own k h).1; have := HB.out; omega, by have := HB.out; omega⟩
            have HTB := Lib.hid hTB
            clear hee hnx hxa hTB
            by_cases hkz : 0 ≤ kz ∧ kz ≤ 255
            · obtain ⟨hkz0, hkz1⟩ := hkz
              obtain ⟨kk, rfl⟩ := Int.eq_ofNat_of_zero_le hkz0
              have hkk : kk ≤ 255 := by omega
              clear hkz0 hkz1
              have hcall := diaryAdd F _ yb tb db bl bm nx cx kk y bx _ wr HW.out.yy HW.out.inv.lim HRX.out HTB.out hkk (by omega) (by have := HW.out.inv.few; omega)
              by_cases hfit : y.s.at_ + sectorsF (nx + 1) ≤ 1500
              · obtain ⟨y', hadd, hi', hl', -⟩ := HW.out.inv.add_ok ⟨(kk : Nat), bx⟩ (by simp) (by simp only; omega) (by simp only; rw [HNX.out]; omega) (by simp only; rw [HNX.out]; exact hfit)
                rw [hadd] at hcall
                have HC := Lib.hid hcall
                have HI := Lib.hid hi'
                have HL' : Hid (y'.l = dl ++ [⟨(kk : Nat), bx⟩]) := Lib.hid (by rw [hl', HDL.out])
                clear hadd hi' hl' hcall hfit
                go_wp2_with fail
                refine HC.out.mono ?_
                rintro e w7 ⟨rfl, hy7, hm7⟩
                have HW7 := Lib.hid (HW.out.turned hy7 hm7 HI.out hBr)
                have hs7 := hm7.size
                have hno : ∀ k, k < w.heap.size → ¬ (F k ∨ k = tb) := fun k hk h => by have := HTB.out k hk; exact h.elim this.2.1 this.2.2
                have hrow7 := HRX.out.mod hm7 (fun k _ hk e => hno k hk e)
                have z0 := cell_kept k0 hm7 hal (hno _ hTa)
                have z1 := cell_kept k1 hm7 hal (hno _ hTa)
                have HM7 : Hid (Mod nil w w7) := Lib.hid (HMW.out.new hm7 (fun j h => by have := HB.out; rcases h with h | h; exact (by have := (HW.out.own j h).1; omega); exact (by omega)))
                obtain ⟨g2, hg2⟩ : ∃ g2, w7.heap.size = g2 := ⟨_, rfl⟩
                obtain ⟨p8, c8, w8, hrun8, hw8, hm8⟩ := HW7.out.push (e := ⟨(kk : Nat), bx⟩) hrow7 (fun k hk => ⟨by have := HB.out; omega, fun h => h.1.elim (HTB.out k hk).2.1 (fun h => by have := HB.out; omega), (HTB.out k hk).2.2, fun ho => by have := HW.out.vown k ho; have := HB.out; omega⟩) hg2 (by omega) (by omega) 33
                have HRUN := Lib.hid hrun8
                have HWA := Lib.hid hw8
                have HMA : Hid (Mod nil w w8) := Lib.hid (HM7.out.new hm8 (fun k h => by have := HB.out; have := HW7.out.vown k h; omega))
                clear hy7 hm7 hrow7 hrun8 hw8 hm8 k0 k1 hno HC
                go_wp2_with (first | (at_builtin; refine wpList_append_run rfl _ _ _ _ rfl rfl rfl HRUN.out ?_))
                exact ⟨⟨j + 1, m + 1, _, _, y', _, p8, c8, by omega, by go_num, rfl, by omega, HL', HWA, HMA⟩, by simp [intOf]; omega⟩
              · have hadd := HW.out.inv.add_full ⟨(kk : Nat), bx⟩ (by simp) (by simp only; omega) (by simp only; rw [HNX.out]; omega) (by simp only; rw [HNX.out]; exact hfit)
                rw [hadd] at hcall
                have HC := Lib.hid hcall
                clear hadd hcall hfit
                go_wp2_with fail
                refine HC.out.mono ?_
                rintro e w7 ⟨rfl, hy7, hm7⟩
                have HWA := Lib.hid (HW.out.turned hy7 hm7 HW.out.inv hBr)
                have HMA : Hid (Mod nil w w7) := Lib.hid (HMW.out.new hm7 (fun j h => by have := HB.out; rcases h with h | h; exact (by have := (HW.out.own j h).1; omega); exact (by omega)))
                clear hy7 hm7 HC
                go_wp2_with fail
                exact ⟨⟨j + 1, m, _, _, y, dl, q, c, by omega, by go_num, rfl, by omega, HDL, HWA, HMA⟩, by simp [intOf]; omega⟩
            · have hbad : entErr kz nx ≠ 0 := by unfold entErr; rw [if_pos (by omega)]; decide
              have hcall := diaryAdd_bad F (fun _ => True) yb tb db bl bm nx cx kz y px wr HW.out.yy (by unfold maxLen; omega) hbad
              obtain ⟨er, her⟩ : ∃ er, entErr kz nx = er := ⟨_, rfl⟩
              rw [her] at hcall hbad
              have herb : (er == 0) = false := by simpa using hbad
              have HC := Lib.hid hcall
              clear hcall her hkz hbad
              go_wp2_with fail
              refine HC.out.mono ?_
              rintro e w7 ⟨rfl, hm7⟩
              have HWA := Lib.hid (HW.out.modNil hm7)
              have HMA := Lib.hid (HMW.out.thenNil hm7)
              clear hm7 HC
              go_wp2_with fail
              exact ⟨⟨j + 1, m, _, _, y, dl, q, c, by omega, by go_num, rfl, by omega, HDL, HWA, HMA⟩, by simp [intOf]; omega⟩
          · obtain rfl : j = i := by omega
            have hok : ∀ e ∈ dl, 0 ≤ e.k ∧ e.k ≤ 255 ∧ e.b.length ≤ 60000 := fun e he => by
              rw [← HDL.out] at he
              have := HW.out.inv.ok e he
              exact ⟨this.1, this.2.1, by omega⟩
            have hml : dl.length = m := HW.out.ents.1
            have HOK := Lib.hid hok
            have HMLD := Lib.hid hml
            obtain ⟨gy, L, y0, hyl, hyt, hlog, hLt⟩ := HW.out.yy.log2
            rw [HDL.out] at hlog
            have HLGY := Lib.hid hlog
            have HBU := Lib.hid (logBundle L gy tb dl wr hlog HW.out.yy.tab hLt hok (by rw [hml]; omega))
            obtain ⟨NB, hNB⟩ : ∃ NB, (exportF dl).length = NB := ⟨_, rfl⟩
            have hNB34 : 34 ≤ NB := by rw [← hNB, exportF_length]; omega
            have hNBb : NB ≤ 1099511620000 := by
              rw [← hNB, exportF_length]
              have : (bodyB dl).length ≤ 60005 * dl.length := bodyB_le dl hok
              omega
            rw [hNB] at HBU
            have HLT := Lib.hid hLt
            have HNB := Lib.hid hNB
            have HY0 := Lib.hid y0
            clear hok hml hlog hLt hNB
            go_wp2_with fail
            refine HBU.out.mono ?_
            rintro e wB ⟨pb, cbb, rfl, hvb, htb2, hmb⟩
            obtain ⟨_, _, hvbe, hcap, hcm⟩ := vecCap hvb
            simp only [Value.slice.injEq] at hvbe
            obtain ⟨rfl, -, rfl⟩ := hvbe
            have HVB : Hid (IsRow (fun k => wr.heap.size ≤ k ∧ k < wB.heap.size) wB (.slice pb NB cbb) (bys (exportF dl))) := Lib.hid (hvb.row.here)
            have HMB := Lib.hid hmb
            have HCAP := Lib.hid (And.intro hcap hcm)
            have HTB2 := Lib.hid htb2
            have htbl : tb < wr.heap.size := HW.out.yy.tab.lt
            have HIM := Lib.hid (chainImport _ tb NB cbb pb (exportF dl) wB htb2 HVB.out (fun k hk => ⟨hk.2, by omega⟩) hcap hcm hNBb)
            rw [importF_exportF dl HOK.out (by rw [HMLD.out]; omega)] at HIM
            clear hvb htb2 hmb hcap hcm HBU y0
            go_wp2_with fail
            refine HIM.out.mono ?_
            rintro e wI ⟨q14, m14, c14, rfl, hv14, htI, hmI⟩
            obtain rfl : m14 = m := by have := hv14.1; have := HMLD.out; omega
            have HV14 := Lib.hid hv14
            have HMI : Hid (Mod (· = tb) wr wI) := Lib.hid (HMB.out.trans hmI (fun _ _ h => h))
            have HVBI : Hid (IsRow (fun k => wr.heap.size ≤ k ∧ k < wB.heap.size) wI (.slice pb NB cbb) (bys (exportF dl))) := Lib.hid (HVB.out.mod hmI (fun k _ h e => by omega))
            have HTI := Lib.hid htI
            have hsBI := hmI.size
            have hsrI := HMI.out.size
            clear hv14 htI hmI HIM
            go_wp2_with fail
            refine (diaryOpen_ok HW.out.inv F tb db bl bm wI (HW.out.yy.dt.modTab HTI.out HMI.out)).mono ?_
            rintro e w5 ⟨yz, -, rfl, hyz, hm5⟩
            obtain ⟨gz, Z, yz0, hyzl, -, hlogz, -⟩ := hyz.log2
            rw [HDL.out] at hlogz
            have HMR5 : Hid (Mod (· = tb) wr w5) := Lib.hid (HMI.out.trans hm5 (fun _ _ h => h))
            have HM5 : Hid (Mod nil w w5) := Lib.hid (HMW.out.new HMR5.out (fun k h => by have := HB.out; omega))
            have HLZ := Lib.hid hlogz
            have HLY : Hid (IsLog L w5 gy tb dl) := Lib.hid (HLGY.out.mod HMR5.out (fun k _ hk e => HLT.out k hk e))
            have HDN : Hid (IsEns R w5 (.slice q m14 c) dl) := Lib.hid (HW.out.ents.read.mod HMR5.out (fun k _ hk e => (HW.out.rown k hk).2.2 e))
            have HIMP : Hid (IsEns (fun k => wB.heap.size ≤ k) w5 (.slice q14 m14 c14) dl) := Lib.hid (HV14.out.read.mod hm5 (fun k _ hk e => by have h' : wB.heap.size ≤ k := hk; have := HMB.out.size; omega))
            have HVB5 : Hid (IsRow (fun k => wr.heap.size ≤ k ∧ k < wB.heap.size) w5 (.slice pb NB cbb) (bys (exportF dl))) := Lib.hid (HVBI.out.mod hm5 (fun k _ h e => by omega))
            have hy5 := cell_kept HY0.out HMR5.out hyl hyt
            have hyl5 : yb < w5.heap.size := Nat.lt_of_lt_of_le hyl HMR5.out.size
            have HBDS : Hid (∀ e ∈ dl, e.b.length ≤ 60000) := Lib.hid (fun e he => (HOK.out e he).2.2)
            have HEND : Hid (∀ W, Mod nil w5 W → Post (.returned (.bool true)) W) := Lib.hid (fun W m => HPOST.out _ _ ⟨rfl, HM5.out.thenNil m⟩)
            have HFST : Hid (∀ W, Mod nil w5 W → Calls Tryz.prog 7 #[] W fun e w' => e = .returned (.bool true) ∧ Mod nil W w') := Lib.hid (fun W _ => yFirst W)
            have HSM1 : Hid (∀ W, Mod nil w5 W → Calls Tryz.prog 12 #[.slice q14 m14 c14, .slice q m14 c] W fun e w' => e = .returned (.bool true) ∧ Mod nil W w') := Lib.hid (fun W mm => by
              refine (chainSame _ _ q14 q m14 c14 m14 c dl dl W (HIMP.out.modNil mm) (HDN.out.modNil mm) (by omega)).mono ?_
              rw [decide_eq_true rfl]
              exact fun _ _ h => h)
            have HSMV : Hid (∀ (S : Nat → Prop) W p c', IsEns S W (.slice p m14 c') dl → Mod nil w5 W → Calls Tryz.prog 12 #[.slice p m14 c', .slice q m14 c] W fun e w' => e = .returned (.bool true) ∧ Mod nil W w') := Lib.hid (fun S W p c' hs mm => by
              refine (chainSame S _ p q m14 c' m14 c dl dl W hs (HDN.out.modNil mm) (by omega)).mono ?_
              rw [decide_eq_true rfl]
              exact fun _ _ h => h)
            have HENY : Hid (∀ W, Mod nil w5 W → Calls Tryz.prog 13 #[.pointer (some ⟨gy, 0, none⟩)] W fun e w' => ∃ p c, e = .returned (.slice p m14 c) ∧ IsEnts (fun k => W.heap.size ≤ k) w' (.slice p m14 c) m14 dl ∧ Mod nil W w') := Lib.hid (fun W mm => by
              have h := logEntries L gy tb dl W (HLY.out.modNil mm) HBDS.out (by rw [HMLD.out]; omega)
              rw [HMLD.out] at h
              exact h)
            have HENZ : Hid (∀ W, Mod nil w5 W → Calls Tryz.prog 13 #[.pointer (some ⟨gz, 0, none⟩)] W fun e w' => ∃ p c, e = .returned (.slice p m14 c) ∧ IsEnts (fun k => W.heap.size ≤ k) w' (.slice p m14 c) m14 dl ∧ Mod nil W w') := Lib.hid (fun W mm => by
              have h := logEntries Z gz tb dl W (HLZ.out.modNil mm) HBDS.out (by rw [HMLD.out]; omega)
              rw [HMLD.out] at h
              exact h)
            have HHDY : Hid (∀ W, Mod nil w5 W → Calls Tryz.prog 17 #[.pointer (some ⟨gy, 0, none⟩)] W fun e w' => ∃ p c, e = .returned (.slice p 32 c) ∧ IsVec (fun k => W.heap.size ≤ k) w' 5 1 (.slice p 32 c) 32 (bys (headH dl)) ∧ Mod nil W w') := Lib.hid (fun W mm => logHead L gy tb dl W (HLY.out.modNil mm))
            have HHDZ : Hid (∀ W, Mod nil w5 W → Calls Tryz.prog 17 #[.pointer (some ⟨gz, 0, none⟩)] W fun e w' => ∃ p c, e = .returned (.slice p 32 c) ∧ IsVec (fun k => W.heap.size ≤ k) w' 5 1 (.slice p 32 c) 32 (bys (headH dl)) ∧ Mod nil W w') := Lib.hid (fun W mm => logHead Z gz tb dl W (HLZ.out.modNil mm))
            have HLEN : Hid (∀ W, Mod nil w5 W → Calls Tryz.prog 18 #[.pointer (some ⟨gy, 0, none⟩)] W fun e w' => e = .returned (.int .i64 m14) ∧ W = w') := Lib.hid (fun W mm => by
              have h := logLen L gy tb dl W (HLY.out.modNil mm)
              rw [HMLD.out] at h
              exact h)
            obtain ⟨hsl0, hr32⟩ := slice_front _ pb NB cbb 32 (exportF dl) w5 HVB5.out (by omega) (by omega) HCAP.out.1
            have hsl : ∀ W, (Instr.slice 34 (.slice pb NB cbb) none (some (.int .i64 32)) none).run Tryz.prog W = .ok (.slice pb 32 cbb) W := fun W => hsl0 W
            have HBY1 : Hid (∀ (S : Nat → Prop) W p c', IsRow S W (.slice p 32 c') (bys (headH dl)) → Mod nil w5 W → Calls Tryz.prog 16 #[.slice pb 32 cbb, .slice p 32 c'] W fun e w' => e = .returned (.bool true) ∧ W = w') := Lib.hid (fun S W p c' hs mm => by
              have h32 : (exportF dl).take 32 = headH dl := exportF_take dl
              have hr := hr32 W (HVB5.out.modNil mm)
              rw [h32] at hr
              refine (refBytesW _ S _ _ _ _ W hr hs).mono ?_
              rw [decide_eq_true rfl]
              exact fun _ _ h => h)
            have HK : Hid (∀ W, Mod nil w5 W → (fun w' => w'.cell? ⟨yb, 0, none⟩ = some (.pointer (some ⟨gy, 0, none⟩)) ∧ w'.cell? ⟨yz, 0, none⟩ = some (.pointer (some ⟨gz, 0, none⟩))) W) := Lib.hid (fun W mm => ⟨cell_kept hy5 mm hyl5 (not_nil _), cell_kept yz0 mm hyzl (not_nil _)⟩)
            have hdec : decide (34 ≤ (NB : Int)) = true := by simp; omega
            clear hyz hm5 hlogz yz0 hyzl hy5 hyl5 hsl0 hr32 HW HMW HY0 hyl hyt
            go_upto_region 26 with (fail)
            simp only [List.append_eq, List.cons_append, List.nil_append]
            refine wp_region_held_drew (S := (fun w' => w'.cell? ⟨yb, 0, none⟩ = some (.pointer (some ⟨gy, 0, none⟩)) ∧ w'.cell? ⟨yz, 0, none⟩ = some (.pointer (some ⟨gz, 0, none⟩)))) (by kernel_rfl) (HK.out _ (by (repeat (first | assumption | exact Mod.refl _ _ | refine Mod.drew ?_ | refine Mod.alloc ?_ _)))) (fun hHeld => ?_)
            refine wpAnyH_ready (rs := [0]) (by kernel_rfl) (by simp) ?_
            refine AllReadyH.cons (i := 0) rfl (fun K hK => ?_) AllReadyH.nil
            (try dsimp (config := { proj := false }) only [List.getElem_toArray, List.getElem_cons_succ, List.getElem_cons_zero])
            go_simp
            refine (HFST.out _ ?_).mono ?_
            · (repeat (first | assumption | exact Mod.refl _ _ | refine Mod.drew ?_ | refine Mod.alloc ?_ _))
            rintro e va ⟨rfl, hq⟩
            have hmva : Mod nil w5 va := (show Mod nil w5 _ from by (repeat (first | assumption | exact Mod.refl _ _ | refine Mod.drew ?_ | refine Mod.alloc ?_ _))).thenNil hq
            clear hq
            refine hK.out _ _ (HK.out _ (by (repeat (first | assumption | exact Mod.refl _ _ | refine Mod.drew ?_ | refine Mod.alloc ?_ _)))) (fun hHeld => ?_)
            clear hK K
            (try simp only [Act.put, List.setIfInBounds_toArray, List.set_cons_zero, List.set_cons_succ])
            (try simp only [List.set_cons_succ, List.set_cons_zero])
            refine wpAnyH_take (i := 1) (v := ?_) rfl (by kernel_rfl) (by kernel_rfl) (by kernel_rfl) (fun _ _ _ h => h) (Or.inl ⟨by kernel_rfl, ?_⟩) (by assumption) ?_
            rotate_left
            · intro w hSw; (try dsimp only at hSw); (first | (go_simp; done) | (go_simp; with_reducible rfl))
            (try simp only [Act.put, List.getElem_toArray, List.getElem_cons_succ, List.getElem_cons_zero, List.setIfInBounds_toArray, List.set_cons_succ, List.set_cons_zero])
            refine wpAnyH_take (i := 2) (v := ?_) rfl (by kernel_rfl) (by kernel_rfl) (by kernel_rfl) (fun _ _ _ h => h) (Or.inl ⟨by kernel_rfl, ?_⟩) (by assumption) ?_
            rotate_left
            · intro w hSw; (try dsimp only at hSw); (first | (go_simp; done) | (go_simp; with_reducible rfl))
            (try simp only [Act.put, List.getElem_toArray, List.getElem_cons_succ, List.getElem_cons_zero, List.setIfInBounds_toArray, List.set_cons_succ, List.set_cons_zero])
            refine wpAnyH_take (i := 3) (v := ?_) rfl (by kernel_rfl) (by kernel_rfl) (by kernel_rfl) (fun _ _ _ h => h) (Or.inl ⟨by kernel_rfl, ?_⟩) (by assumption) ?_
            rotate_left
            · intro w hSw; (try dsimp only at hSw); (first | (go_simp; done) | (go_simp; with_reducible rfl))
            (try simp only [Act.put, List.getElem_toArray, List.getElem_cons_succ, List.getElem_cons_zero, List.setIfInBounds_toArray, List.set_cons_succ, List.set_cons_zero])
            refine wpAnyH_take (i := 4) (v := ?_) rfl (by kernel_rfl) (by kernel_rfl) (by kernel_rfl) (fun _ _ _ h => h) (Or.inl ⟨by kernel_rfl, ?_⟩) (by assumption) ?_
            rotate_left
            · intro w hSw; (try dsimp only at hSw); (first | (go_simp; done) | (go_simp; with_reducible rfl))
            (try simp only [Act.put, List.getElem_toArray, List.getElem_cons_succ, List.getElem_cons_zero, List.setIfInBounds_toArray, List.set_cons_succ, List.set_cons_zero])
            refine wpAnyH_take (i := 5) (v := ?_) rfl (by kernel_rfl) (by kernel_rfl) (by kernel_rfl) (fun _ _ _ h => h) (Or.inl ⟨by kernel_rfl, ?_⟩) (by assumption) ?_
            rotate_left
            · intro w hSw; (try dsimp only at hSw); (first | (go_simp; done) | (go_simp; with_reducible rfl))
            (try simp only [Act.put, List.getElem_toArray, List.getElem_cons_succ, List.getElem_cons_zero, List.setIfInBounds_toArray, List.set_cons_succ, List.set_cons_zero])
            refine wpAnyH_take (i := 6) (v := ?_) rfl (by kernel_rfl) (by kernel_rfl) (by kernel_rfl) (fun _ _ _ h => h) (Or.inl ⟨by kernel_rfl, ?_⟩) (by assumption) ?_
            rotate_left
            · intro w hSw; (try dsimp only at hSw); (first | (go_simp; done) | (go_simp; with_reducible rfl))
            (try simp only [Act.put, List.getElem_toArray, List.getElem_cons_succ, List.getElem_cons_zero, List.setIfInBounds_toArray, List.set_cons_succ, List.set_cons_zero])
            refine wpAnyH_take (i := 7) (v := ?_) rfl (by kernel_rfl) (by kernel_rfl) (by kernel_rfl) (fun _ _ _ h => h) (Or.inl ⟨by kernel_rfl, ?_⟩) (by assumption) ?_
            rotate_left
            · intro w hSw; (try dsimp only at hSw); (first | (go_simp; done) | (go_simp; with_reducible rfl))
            (try simp only [Act.put, List.getElem_toArray, List.getElem_cons_succ, List.getElem_cons_zero, List.setIfInBounds_toArray, List.set_cons_succ, List.set_cons_zero])
            refine wpAnyH_take (i := 8) (v := ?_) rfl (by kernel_rfl) (by kernel_rfl) (by kernel_rfl) (fun _ _ _ h => h) (Or.inl ⟨by kernel_rfl, ?_⟩) (by assumption) ?_
            rotate_left
            · intro w hSw; (try dsimp only at hSw); (first | (go_simp; done) | (go_simp; with_reducible rfl))
            (try simp only [Act.put, List.getElem_toArray, List.getElem_cons_succ, List.getElem_cons_zero, List.setIfInBounds_toArray, List.set_cons_succ, List.set_cons_zero])
            refine wpAnyH_take (i := 9) (v := ?_) rfl (by kernel_rfl) (by kernel_rfl) (by kernel_rfl) (fun _ _ _ h => h) (Or.inl ⟨by kernel_rfl, ?_⟩) (by assumption) ?_
            rotate_left
            · intro w hSw; (try dsimp only at hSw); (first | (go_simp; done) | (go_simp; with_reducible rfl))
            (try simp only [Act.put, List.getElem_toArray, List.getElem_cons_succ, List.getElem_cons_zero, List.setIfInBounds_toArray, List.set_cons_succ, List.set_cons_zero])
            refine wpAnyH_take (i := 10) (v := ?_) rfl (by kernel_rfl) (by kernel_rfl) (by kernel_rfl) (fun _ _ _ h => h) (Or.inl ⟨by kernel_rfl, ?_⟩) (by assumption) ?_
            rotate_left
            · intro w hSw; (try dsimp only at hSw); (first | (go_simp; done) | (go_simp; with_reducible rfl))
            (try simp only [Act.put, List.getElem_toArray, List.getElem_cons_succ, List.getElem_cons_zero, List.setIfInBounds_toArray, List.set_cons_succ, List.set_cons_zero])
            refine wpAnyH_take (i := 11) (v := ?_) rfl (by kernel_rfl) (by kernel_rfl) (by kernel_rfl) (fun _ _ _ h => h) (Or.inl ⟨by kernel_rfl, ?_⟩) (by assumption) ?_
            rotate_left
            · intro w hSw; (try dsimp only at hSw); (first | (go_simp; done) | (go_simp; with_reducible rfl))
            (try simp only [Act.put, List.getElem_toArray, List.getElem_cons_succ, List.getElem_cons_zero, List.setIfInBounds_toArray, List.set_cons_succ, List.set_cons_zero])
            refine wpAnyH_take (i := 12) (v := ?_) rfl (by kernel_rfl) (by kernel_rfl) (by kernel_rfl) (fun _ _ _ h => h) (Or.inl ⟨by kernel_rfl, ?_⟩) (by assumption) ?_
            rotate_left
            · intro w hSw; (try dsimp only at hSw); (first | (go_simp; done) | (go_simp; with_reducible rfl))
            (try simp only [Act.put, List.getElem_toArray, List.getElem_cons_succ, List.getElem_cons_zero, List.setIfInBounds_toArray, List.set_cons_succ, List.set_cons_zero])
            refine wpAnyH_take (i := 13) (v := ?_) rfl (by kernel_rfl) (by kernel_rfl) (by kernel_rfl) (fun _ _ _ h => h) (Or.inl ⟨by kernel_rfl, ?_⟩) (by assumption) ?_
            rotate_left
            · intro w hSw; (try dsimp only at hSw); (first | (go_simp; done) | (go_simp; with_reducible rfl))
            (try simp only [Act.put, List.getElem_toArray, List.getElem_cons_succ, List.getElem_cons_zero, List.setIfInBounds_toArray, List.set_cons_succ, List.set_cons_zero])
            refine wpAnyH_take (i := 14) (v := ?_) rfl (by kernel_rfl) (by kernel_rfl) (by kernel_rfl) (fun _ _ _ h => h) (Or.inl ⟨by kernel_rfl, ?_⟩) (by assumption) ?_
            rotate_left
            · intro w hSw; (try dsimp only at hSw); (first | (go_simp; done) | (go_simp; with_reducible rfl))
            (try simp only [Act.put, List.getElem_toArray, List.getElem_cons_succ, List.getElem_cons_zero, List.setIfInBounds_toArray, List.set_cons_succ, List.set_cons_zero])
            refine wpAnyH_take (i := 15) (v := ?_) rfl (by kernel_rfl) (by kernel_rfl) (by kernel_rfl) (fun _ _ _ h => h) (Or.inl ⟨by kernel_rfl, ?_⟩) (by assumption) ?_
            rotate_left
            · intro w hSw; (try dsimp only at hSw); (first | (go_simp; done) | (go_simp; with_reducible rfl))
            (try simp only [Act.put, List.getElem_toArray, List.getElem_cons_succ, List.getElem_cons_zero, List.setIfInBounds_toArray, List.set_cons_succ, List.set_cons_zero])
            refine wpAnyH_take (i := 16) (v := ?_) rfl (by kernel_rfl) (by kernel_rfl) (by kernel_rfl) (fun _ _ _ h => h) (Or.inl ⟨by kernel_rfl, ?_⟩) (by assumption) ?_
            rotate_left
            · intro w hSw; (try dsimp only at hSw); (first | (go_simp; done) | (go_simp; with_reducible rfl))
            (try simp only [Act.put, List.getElem_toArray, List.getElem_cons_succ, List.getElem_cons_zero, List.setIfInBounds_toArray, List.set_cons_succ, List.set_cons_zero])
            refine wpAnyH_take (i := 17) (v := ?_) rfl (by kernel_rfl) (by kernel_rfl) (by kernel_rfl) (fun _ _ _ h => h) (Or.inl ⟨by kernel_rfl, ?_⟩) (by assumption) ?_
            rotate_left
            · intro w hSw; (try dsimp only at hSw); (first | (go_simp; done) | (go_simp; with_reducible rfl))
            (try simp only [Act.put, List.getElem_toArray, List.getElem_cons_succ, List.getElem_cons_zero, List.setIfInBounds_toArray, List.set_cons_succ, List.set_cons_zero])
            refine wpAnyH_take (i := 18) (v := ?_) rfl (by kernel_rfl) (by kernel_rfl) (by kernel_rfl) (fun _ _ _ h => h) (Or.inl ⟨by kernel_rfl, ?_⟩) (by assumption) ?_
            rotate_left
            · intro w hSw; (try dsimp only at hSw); (first | (go_simp; done) | (go_simp; with_reducible rfl))
            (try simp only [Act.put, List.getElem_toArray, List.getElem_cons_succ, List.getElem_cons_zero, List.setIfInBounds_toArray, List.set_cons_succ, List.set_cons_zero])
            refine wpAnyH_take (i := 19) (v := ?_) rfl (by kernel_rfl) (by kernel_rfl) (by kernel_rfl) (fun _ _ _ h => h) (Or.inl ⟨by kernel_rfl, ?_⟩) (by assumption) ?_
            rotate_left
            · intro w hSw; (try dsimp only at hSw); (first | (go_simp; done) | (go_simp; with_reducible rfl))
            (try simp only [Act.put, List.getElem_toArray, List.getElem_cons_succ, List.getElem_cons_zero, List.setIfInBounds_toArray, List.set_cons_succ, List.set_cons_zero])
            refine wpAnyH_ready (rs := [20]) (by kernel_rfl) (by simp) ?_
            refine AllReadyH.cons (i := 20) rfl (fun K hK => ?_) AllReadyH.nil
            (try dsimp (config := { proj := false }) only [List.getElem_toArray, List.getElem_cons_succ, List.getElem_cons_zero])
            go_simp
            refine (HSM1.out _ ?_).mono ?_
            · (repeat (first | assumption | exact Mod.refl _ _ | refine Mod.drew ?_ | refine Mod.alloc ?_ _))
            rintro e vb ⟨rfl, hq⟩
            have hmvb : Mod nil w5 vb := (show Mod nil w5 _ from by (repeat (first | assumption | exact Mod.refl _ _ | refine Mod.drew ?_ | refine Mod.alloc ?_ _))).thenNil hq
            clear hq
            refine hK.out _ _ (HK.out _ (by (repeat (first | assumption | exact Mod.refl _ _ | refine Mod.drew ?_ | refine Mod.alloc ?_ _)))) (fun hHeld => ?_)
            clear hK K
            (try simp only [Act.put, List.setIfInBounds_toArray, List.set_cons_zero, List.set_cons_succ])
            (try simp only [List.set_cons_succ, List.set_cons_zero])
            refine wpAnyH_take (i := 21) (v := ?_) rfl (by kernel_rfl) (by kernel_rfl) (by kernel_rfl) (fun _ _ _ h => h) (Or.inl ⟨by kernel_rfl, ?_⟩) (by assumption) ?_
            rotate_left
            · intro w hSw; (try dsimp only at hSw); (first | (go_simp; done) | (go_simp; with_reducible rfl))
            (try simp only [Act.put, List.getElem_toArray, List.getElem_cons_succ, List.getElem_cons_zero, List.setIfInBounds_toArray, List.set_cons_succ, List.set_cons_zero])
            refine wpAnyH_take (i := 22) (v := ?_) rfl (by kernel_rfl) (by kernel_rfl) (by kernel_rfl) (fun _ _ _ h => h) (Or.inl ⟨by kernel_rfl, ?_⟩) (by assumption) ?_
            rotate_left
            · intro w hSw; (try dsimp only at hSw); (first | (go_simp; done) | (go_simp; with_reducible rfl))
            (try simp only [Act.put, List.getElem_toArray, List.getElem_cons_succ, List.getElem_cons_zero, List.setIfInBounds_toArray, List.set_cons_succ, List.set_cons_zero])
            refine wpAnyH_take (i := 23) (v := ?_) rfl (by kernel_rfl) (by kernel_rfl) (by kernel_rfl) (fun _ _ _ h => h) (Or.inl ⟨by kernel_rfl, ?_⟩) (by assumption) ?_
            rotate_left
            · intro w hSw; (try dsimp only at hSw); (first | (go_simp; done) | (go_simp; with_reducible rfl))
            (try simp only [Act.put, List.getElem_toArray, List.getElem_cons_succ, List.getElem_cons_zero, List.setIfInBounds_toArray, List.set_cons_succ, List.set_cons_zero])
            refine wpAnyH_take (i := 24) (v := ?_) rfl (by kernel_rfl) (by kernel_rfl) (by kernel_rfl) (fun _ _ _ h => h) (Or.inl ⟨by kernel_rfl, ?_⟩) (by assumption) ?_
            rotate_left
            · intro w hSw; (try dsimp only at hSw); (first | (go_simp; done) | (go_simp; with_reducible rfl))
            (try simp only [Act.put, List.getElem_toArray, List.getElem_cons_succ, List.getElem_cons_zero, List.setIfInBounds_toArray, List.set_cons_succ, List.set_cons_zero])
            refine wpAnyH_take (i := 25) (v := ?_) rfl (by kernel_rfl) (by kernel_rfl) (by kernel_rfl) (fun _ _ _ h => h) (Or.inl ⟨by kernel_rfl, ?_⟩) (by assumption) ?_
            rotate_left
            · intro w hSw; (try dsimp only at hSw); (first | (go_simp; done) | (go_simp; with_reducible rfl))
            (try simp only [Act.put, List.getElem_toArray, List.getElem_cons_succ, List.getElem_cons_zero, List.setIfInBounds_toArray, List.set_cons_succ, List.set_cons_zero])
            refine wpAnyH_take (i := 26) (v := ?_) rfl (by kernel_rfl) (by kernel_rfl) (by kernel_rfl) (fun _ _ _ h => h) (Or.inl ⟨by kernel_rfl, ?_⟩) (by assumption) ?_
            rotate_left
            · intro w hSw; (try dsimp only at hSw); (first | (go_simp; done) | (go_simp; with_reducible rfl))
            (try simp only [Act.put, List.getElem_toArray, List.getElem_cons_succ, List.getElem_cons_zero, List.setIfInBounds_toArray, List.set_cons_succ, List.set_cons_zero])
            refine wpAnyH_take (i := 28) (v := ?_) rfl (by kernel_rfl) (by kernel_rfl) (by kernel_rfl) (fun _ _ _ h => h) (Or.inl ⟨by kernel_rfl, ?_⟩) (by assumption) ?_
            rotate_left
            · intro w hSw; (try dsimp only at hSw); (first | (go_simp; done) | (go_simp; with_reducible rfl))
            (try simp only [Act.put, List.getElem_toArray, List.getElem_cons_succ, List.getElem_cons_zero, List.setIfInBounds_toArray, List.set_cons_succ, List.set_cons_zero])
            refine wpAnyH_ready (rs := [27]) (by kernel_rfl) (by simp) ?_
            refine AllReadyH.cons (i := 27) rfl (fun K hK => ?_) AllReadyH.nil
            (try dsimp (config := { proj := false }) only [List.getElem_toArray, List.getElem_cons_succ, List.getElem_cons_zero])
            go_simp
            refine (HENZ.out _ ?_).mono ?_
            · (repeat (first | assumption | exact Mod.refl _ _ | refine Mod.drew ?_ | refine Mod.alloc ?_ _))
            rintro e vc ⟨p27, c27, rfl, hv27, hq⟩
            have hmvc : Mod nil w5 vc := (show Mod nil w5 _ from by (repeat (first | assumption | exact Mod.refl _ _ | refine Mod.drew ?_ | refine Mod.alloc ?_ _))).thenNil hq
            clear hq
            refine hK.out _ _ (HK.out _ (by (repeat (first | assumption | exact Mod.refl _ _ | refine Mod.drew ?_ | refine Mod.alloc ?_ _)))) (fun hHeld => ?_)
            clear hK K
            (try simp only [Act.put, List.setIfInBounds_toArray, List.set_cons_zero, List.set_cons_succ])
            (try simp only [List.set_cons_succ, List.set_cons_zero])
            refine wpAnyH_ready (rs := [29]) (by kernel_rfl) (by simp) ?_
            refine AllReadyH.cons (i := 29) rfl (fun K hK => ?_) AllReadyH.nil
            (try dsimp (config := { proj := false }) only [List.getElem_toArray, List.getElem_cons_succ, List.getElem_cons_zero])
            go_simp
            refine (HSMV.out _ _ _ _ hv27.read ?_).mono ?_
            · (repeat (first | assumption | exact Mod.refl _ _ | refine Mod.drew ?_ | refine Mod.alloc ?_ _))
            rintro e vd ⟨rfl, hq⟩
            have hmvd : Mod nil w5 vd := (show Mod nil w5 _ from by (repeat (first | assumption | exact Mod.refl _ _ | refine Mod.drew ?_ | refine Mod.alloc ?_ _))).thenNil hq
            clear hq hv27
            refine hK.out _ _ (HK.out _ (by (repeat (first | assumption | exact Mod.refl _ _ | refine Mod.drew ?_ | refine Mod.alloc ?_ _)))) (fun hHeld => ?_)
            clear hK K
            (try simp only [Act.put, List.setIfInBounds_toArray, List.set_cons_zero, List.set_cons_succ])
            (try simp only [List.set_cons_succ, List.set_cons_zero])
            refine wpAnyH_take (i := 30) (v := ?_) rfl (by kernel_rfl) (by kernel_rfl) (by kernel_rfl) (fun _ _ _ h => h) (Or.inl ⟨by kernel_rfl, ?_⟩) (by assumption) ?_
            rotate_left
            · intro w hSw; (try dsimp only at hSw); (first | (go_simp; done) | (go_simp; with_reducible rfl))
            (try simp only [Act.put, List.getElem_toArray, List.getElem_cons_succ, List.getElem_cons_zero, List.setIfInBounds_toArray, List.set_cons_succ, List.set_cons_zero])
            refine wpAnyH_take (i := 31) (v := ?_) rfl (by kernel_rfl) (by kernel_rfl) (by kernel_rfl) (fun _ _ _ h => h) (Or.inl ⟨by kernel_rfl, ?_⟩) (by assumption) ?_
            rotate_left
            · intro w hSw; (try dsimp only at hSw); (first | (go_simp; done) | (go_simp; with_reducible rfl))
            (try simp only [Act.put, List.getElem_toArray, List.getElem_cons_succ, List.getElem_cons_zero, List.setIfInBounds_toArray, List.set_cons_succ, List.set_cons_zero])
            refine wpAnyH_take (i := 32) (v := ?_) rfl (by kernel_rfl) (by kernel_rfl) (by kernel_rfl) (fun _ _ _ h => h) (Or.inl ⟨by kernel_rfl, ?_⟩) (by assumption) ?_
            rotate_left
            · intro w hSw; (try dsimp only at hSw); (first | (go_simp; done) | (go_simp; with_reducible rfl))
            (try simp only [Act.put, List.getElem_toArray, List.getElem_cons_succ, List.getElem_cons_zero, List.setIfInBounds_toArray, List.set_cons_succ, List.set_cons_zero])
            refine wpAnyH_take (i := 33) (v := ?_) rfl (by kernel_rfl) (by kernel_rfl) (by kernel_rfl) (fun _ _ _ h => h) (Or.inl ⟨by kernel_rfl, ?_⟩) (by assumption) ?_
            rotate_left
            · intro w hSw; (try dsimp only at hSw); (first | (go_simp; done) | (go_simp; with_reducible rfl))
            (try simp only [Act.put, List.getElem_toArray, List.getElem_cons_succ, List.getElem_cons_zero, List.setIfInBounds_toArray, List.set_cons_succ, List.set_cons_zero])
            refine wpAnyH_take (i := 34) (v := ?_) rfl (by kernel_rfl) (by kernel_rfl) (by kernel_rfl) (fun _ _ _ h => h) (Or.inl ⟨by kernel_rfl, ?_⟩) (by assumption) ?_
            rotate_left
            · intro w hSw; (try dsimp only at hSw); (first | (go_simp; done) | (go_simp; with_reducible rfl))
            (try simp only [Act.put, List.getElem_toArray, List.getElem_cons_succ, List.getElem_cons_zero, List.setIfInBounds_toArray, List.set_cons_succ, List.set_cons_zero])
            refine wpAnyH_take (i := 35) (v := ?_) rfl (by kernel_rfl) (by kernel_rfl) (by kernel_rfl) (fun _ _ _ h => h) (Or.inl ⟨by kernel_rfl, ?_⟩) (by assumption) ?_
            rotate_left
            · intro w hSw; (try dsimp only at hSw); (first | (go_simp; done) | (go_simp; with_reducible rfl))
            (try simp only [Act.put, List.getElem_toArray, List.getElem_cons_succ, List.getElem_cons_zero, List.setIfInBounds_toArray, List.set_cons_succ, List.set_cons_zero])
            refine wpAnyH_take (i := 37) (v := ?_) rfl (by kernel_rfl) (by kernel_rfl) (by kernel_rfl) (fun _ _ _ h => h) (Or.inl ⟨by kernel_rfl, ?_⟩) (by assumption) ?_
            rotate_left
            · intro w hSw; (try dsimp only at hSw); (first | (go_simp; done) | (go_simp; with_reducible rfl))
            (try simp only [Act.put, List.getElem_toArray, List.getElem_cons_succ, List.getElem_cons_zero, List.setIfInBounds_toArray, List.set_cons_succ, List.set_cons_zero])
            refine wpAnyH_ready (rs := [36]) (by kernel_rfl) (by simp) ?_
            refine AllReadyH.cons (i := 36) rfl (fun K hK => ?_) AllReadyH.nil
            (try dsimp (config := { proj := false }) only [List.getElem_toArray, List.getElem_cons_succ, List.getElem_cons_zero])
            go_simp
            refine (HENY.out _ ?_).mono ?_
            · (repeat (first | assumption | exact Mod.refl _ _ | refine Mod.drew ?_ | refine Mod.alloc ?_ _))
            rintro e ve ⟨p36, c36, rfl, hv36, hq⟩
            have hmve : Mod nil w5 ve := (show Mod nil w5 _ from by (repeat (first | assumption | exact Mod.refl _ _ | refine Mod.drew ?_ | refine Mod.alloc ?_ _))).thenNil hq
            clear hq
            refine hK.out _ _ (HK.out _ (by (repeat (first | assumption | exact Mod.refl _ _ | refine Mod.drew ?_ | refine Mod.alloc ?_ _)))) (fun hHeld => ?_)
            clear hK K
            (try simp only [Act.put, List.setIfInBounds_toArray, List.set_cons_zero, List.set_cons_succ])
            (try simp only [List.set_cons_succ, List.set_cons_zero])
            refine wpAnyH_ready (rs := [38]) (by kernel_rfl) (by simp) ?_
            refine AllReadyH.cons (i := 38) rfl (fun K hK => ?_) AllReadyH.nil
            (try dsimp (config := { proj := false }) only [List.getElem_toArray, List.getElem_cons_succ, List.getElem_cons_zero])
            go_simp
            refine (HSMV.out _ _ _ _ hv36.read ?_).mono ?_
            · (repeat (first | assumption | exact Mod.refl _ _ | refine Mod.drew ?_ | refine Mod.alloc ?_ _))
            rintro e vf ⟨rfl, hq⟩
            have hmvf : Mod nil w5 vf := (show Mod nil w5 _ from by (repeat (first | assumption | exact Mod.refl _ _ | refine Mod.drew ?_ | refine Mod.alloc ?_ _))).thenNil hq
            clear hq hv36
            refine hK.out _ _ (HK.out _ (by (repeat (first | assumption | exact Mod.refl _ _ | refine Mod.drew ?_ | refine Mod.alloc ?_ _)))) (fun hHeld => ?_)
            clear hK K
            (try simp only [Act.put, List.setIfInBounds_toArray, List.set_cons_zero, List.set_cons_succ])
            (try simp only [List.set_cons_succ, List.set_cons_zero])
            refine wpAnyH_take (i := 39) (v := ?_) rfl (by kernel_rfl) (by kernel_rfl) (by kernel_rfl) (fun _ _ _ h => h) (Or.inl ⟨by kernel_rfl, ?_⟩) (by assumption) ?_
            rotate_left
            · intro w hSw; (try dsimp only at hSw); (first | (go_simp; done) | (go_simp; with_reducible rfl))
            (try simp only [Act.put, List.getElem_toArray, List.getElem_cons_succ, List.getElem_cons_zero, List.setIfInBounds_toArray, List.set_cons_succ, List.set_cons_zero])
            refine wpAnyH_take (i := 40) (v := ?_) rfl (by kernel_rfl) (by kernel_rfl) (by kernel_rfl) (fun _ _ _ h => h) (Or.inl ⟨by kernel_rfl, ?_⟩) (by assumption) ?_
            rotate_left
            · intro w hSw; (try dsimp only at hSw); (first | (go_simp; done) | (go_simp; with_reducible rfl))
            (try simp only [Act.put, List.getElem_toArray, List.getElem_cons_succ, List.getElem_cons_zero, List.setIfInBounds_toArray, List.set_cons_succ, List.set_cons_zero])
            refine wpAnyH_take (i := 41) (v := ?_) rfl (by kernel_rfl) (by kernel_rfl) (by kernel_rfl) (fun _ _ _ h => h) (Or.inl ⟨by kernel_rfl, ?_⟩) (by assumption) ?_
            rotate_left
            · intro w hSw; (try dsimp only at hSw); (first | (go_simp; done) | (go_simp; with_reducible rfl))
            (try simp only [Act.put, List.getElem_toArray, List.getElem_cons_succ, List.getElem_cons_zero, List.setIfInBounds_toArray, List.set_cons_succ, List.set_cons_zero])
            refine wpAnyH_take (i := 42) (v := ?_) rfl (by kernel_rfl) (by kernel_rfl) (by kernel_rfl) (fun _ _ _ h => h) (Or.inl ⟨by kernel_rfl, ?_⟩) (by assumption) ?_
            rotate_left
            · intro w hSw; (try dsimp only at hSw); (first | (go_simp; done) | (go_simp; with_reducible rfl))
            (try simp only [Act.put, List.getElem_toArray, List.getElem_cons_succ, List.getElem_cons_zero, List.setIfInBounds_toArray, List.set_cons_succ, List.set_cons_zero])
            refine wpAnyH_take (i := 43) (v := ?_) rfl (by kernel_rfl) (by kernel_rfl) (by kernel_rfl) (fun _ _ _ h => h) (Or.inl ⟨by kernel_rfl, ?_⟩) (by assumption) ?_
            rotate_left
            · intro w hSw; (try dsimp only at hSw); (first | (go_simp; done) | (go_simp; with_reducible rfl))
            (try simp only [Act.put, List.getElem_toArray, List.getElem_cons_succ, List.getElem_cons_zero, List.setIfInBounds_toArray, List.set_cons_succ, List.set_cons_zero])
            refine wpAnyH_take (i := 44) (v := ?_) rfl (by kernel_rfl) (by kernel_rfl) (by kernel_rfl) (fun _ _ _ h => h) (Or.inl ⟨by kernel_rfl, ?_⟩) (by assumption) ?_
            rotate_left
            · intro w hSw; (try dsimp only at hSw); (first | (go_simp; done) | (go_simp; with_reducible rfl))
            (try simp only [Act.put, List.getElem_toArray, List.getElem_cons_succ, List.getElem_cons_zero, List.setIfInBounds_toArray, List.set_cons_succ, List.set_cons_zero])
            refine wpAnyH_take (i := 45) (v := ?_) rfl (by kernel_rfl) (by kernel_rfl) (by kernel_rfl) (fun _ _ _ h => h) (Or.inl ⟨by kernel_rfl, ?_⟩) (by assumption) ?_
            rotate_left
            · intro w hSw; (try dsimp only at hSw); (first | (go_simp; done) | (go_simp; with_reducible rfl))
            (try simp only [Act.put, List.getElem_toArray, List.getElem_cons_succ, List.getElem_cons_zero, List.setIfInBounds_toArray, List.set_cons_succ, List.set_cons_zero])
            refine wpAnyH_take (i := 46) (v := ?_) rfl (by kernel_rfl) (by kernel_rfl) (by kernel_rfl) (fun _ _ _ h => h) (Or.inl ⟨by kernel_rfl, ?_⟩) (by assumption) ?_
            rotate_left
            · intro w hSw; (try dsimp only at hSw); (first | (go_simp; done) | (go_simp; with_reducible rfl))
            (try simp only [Act.put, List.getElem_toArray, List.getElem_cons_succ, List.getElem_cons_zero, List.setIfInBounds_toArray, List.set_cons_succ, List.set_cons_zero])
            refine wpAnyH_take (i := 47) (v := ?_) rfl (by kernel_rfl) (by kernel_rfl) (by kernel_rfl) (fun _ _ _ h => h) (Or.inl ⟨by kernel_rfl, ?_⟩) (by assumption) ?_
            rotate_left
            · intro w hSw; (try dsimp only at hSw); (first | (go_simp; done) | (go_simp; with_reducible rfl))
            (try simp only [Act.put, List.getElem_toArray, List.getElem_cons_succ, List.getElem_cons_zero, List.setIfInBounds_toArray, List.set_cons_succ, List.set_cons_zero])
            refine wpAnyH_take (i := 48) (v := ?_) rfl (by kernel_rfl) (by kernel_rfl) (by kernel_rfl) (fun _ _ _ h => h) (Or.inl ⟨by kernel_rfl, ?_⟩) (by assumption) ?_
            rotate_left
            · intro w hSw; (try dsimp only at hSw); (first | (go_simp; done) | (go_simp; with_reducible rfl))
            (try simp only [Act.put, List.getElem_toArray, List.getElem_cons_succ, List.getElem_cons_zero, List.setIfInBounds_toArray, List.set_cons_succ, List.set_cons_zero])
            refine wpAnyH_take (i := 49) (v := ?_) rfl (by kernel_rfl) (by kernel_rfl) (by kernel_rfl) (fun _ _ _ h => h) (Or.inl ⟨by kernel_rfl, ?_⟩) (by assumption) ?_
            rotate_left
            · intro w hSw; (try dsimp only at hSw); (first | (go_simp; done) | (go_simp; with_reducible rfl))
            (try simp only [Act.put, List.getElem_toArray, List.getElem_cons_succ, List.getElem_cons_zero, List.setIfInBounds_toArray, List.set_cons_succ, List.set_cons_zero])
            refine wpAnyH_take (i := 50) (v := ?_) rfl (by kernel_rfl) (by kernel_rfl) (by kernel_rfl) (fun _ _ _ h => h) (Or.inl ⟨by kernel_rfl, ?_⟩) (by assumption) ?_
            rotate_left
            · intro w hSw; (try dsimp only at hSw); (first | (go_simp; done) | (go_simp; with_reducible rfl))
            (try simp only [Act.put, List.getElem_toArray, List.getElem_cons_succ, List.getElem_cons_zero, List.setIfInBounds_toArray, List.set_cons_succ, List.set_cons_zero])
            refine wpAnyH_take (i := 51) (v := ?_) rfl (by kernel_rfl) (by kernel_rfl) (by kernel_rfl) (fun _ _ _ h => h) (Or.inl ⟨by kernel_rfl, ?_⟩) (by assumption) ?_
            rotate_left
            · intro w hSw; (try dsimp only at hSw); (first | (go_simp; done) | (go_simp; with_reducible rfl))
            (try simp only [Act.put, List.getElem_toArray, List.getElem_cons_succ, List.getElem_cons_zero, List.setIfInBounds_toArray, List.set_cons_succ, List.set_cons_zero])
            refine wpAnyH_ready (rs := [52]) (by kernel_rfl) (by simp) ?_
            refine AllReadyH.cons (i := 52) rfl (fun K hK => ?_) AllReadyH.nil
            (try dsimp (config := { proj := false }) only [List.getElem_toArray, List.getElem_cons_succ, List.getElem_cons_zero])
            go_simp
            refine (HHDY.out _ ?_).mono ?_
            · (repeat (first | assumption | exact Mod.refl _ _ | refine Mod.drew ?_ | refine Mod.alloc ?_ _))
            rintro e vg ⟨p52, c52, rfl, hv52, hq⟩
            have hmvg : Mod nil w5 vg := (show Mod nil w5 _ from by (repeat (first | assumption | exact Mod.refl _ _ | refine Mod.drew ?_ | refine Mod.alloc ?_ _))).thenNil hq
            clear hq
            refine hK.out _ _ (HK.out _ (by (repeat (first | assumption | exact Mod.refl _ _ | refine Mod.drew ?_ | refine Mod.alloc ?_ _)))) (fun hHeld => ?_)
            clear hK K
            (try simp only [Act.put, List.setIfInBounds_toArray, List.set_cons_zero, List.set_cons_succ])
            (try simp only [List.set_cons_succ, List.set_cons_zero])
            refine wpAnyH_ready (rs := [53]) (by kernel_rfl) (by simp) ?_
            refine AllReadyH.cons (i := 53) rfl (fun K hK => ?_) AllReadyH.nil
            (try dsimp (config := { proj := false }) only [List.getElem_toArray, List.getElem_cons_succ, List.getElem_cons_zero])
            go_simp
            refine (HBY1.out _ _ _ _ hv52.row ?_).mono ?_
            · (repeat (first | assumption | exact Mod.refl _ _ | refine Mod.drew ?_ | refine Mod.alloc ?_ _))
            rintro e w' ⟨rfl, rfl⟩
            refine hK.out _ _ (HK.out _ (by (repeat (first | assumption | exact Mod.refl _ _ | refine Mod.drew ?_ | refine Mod.alloc ?_ _)))) (fun hHeld => ?_)
            clear hK K
            (try simp only [Act.put, List.setIfInBounds_toArray, List.set_cons_zero, List.set_cons_succ])
            (try simp only [List.set_cons_succ, List.set_cons_zero])
            refine wpAnyH_take (i := 54) (v := ?_) rfl (by kernel_rfl) (by kernel_rfl) (by kernel_rfl) (fun _ _ _ h => h) (Or.inl ⟨by kernel_rfl, ?_⟩) (by assumption) ?_
            rotate_left
            · intro w hSw; (try dsimp only at hSw); (first | (go_simp; done) | (go_simp; with_reducible rfl))
            (try simp only [Act.put, List.getElem_toArray, List.getElem_cons_succ, List.getElem_cons_zero, List.setIfInBounds_toArray, List.set_cons_succ, List.set_cons_zero])
            refine wpAnyH_take (i := 55) (v := ?_) rfl (by kernel_rfl) (by kernel_rfl) (by kernel_rfl) (fun _ _ _ h => h) (Or.inl ⟨by kernel_rfl, ?_⟩) (by assumption) ?_
            rotate_left
            · intro w hSw; (try dsimp only at hSw); (first | (go_simp; done) | (go_simp; with_reducible rfl))
            (try simp only [Act.put, List.getElem_toArray, List.getElem_cons_succ, List.getElem_cons_zero, List.setIfInBounds_toArray, List.set_cons_succ, List.set_cons_zero])
            refine wpAnyH_take (i := 56) (v := ?_) rfl (by kernel_rfl) (by kernel_rfl) (by kernel_rfl) (fun _ _ _ h => h) (Or.inl ⟨by kernel_rfl, ?_⟩) (by assumption) ?_
            rotate_left
            · intro w hSw; (try dsimp only at hSw); (first | (go_simp; done) | (go_simp; with_reducible rfl))
            (try simp only [Act.put, List.getElem_toArray, List.getElem_cons_succ, List.getElem_cons_zero, List.setIfInBounds_toArray, List.set_cons_succ, List.set_cons_zero])
            refine wpAnyH_take (i := 57) (v := ?_) rfl (by kernel_rfl) (by kernel_rfl) (by kernel_rfl) (fun _ _ _ h => h) (Or.inl ⟨by kernel_rfl, ?_⟩) (by assumption) ?_
            rotate_left
            · intro w hSw; (try dsimp only at hSw); (first | (go_simp; done) | (go_simp; with_reducible rfl))
            (try simp only [Act.put, List.getElem_toArray, List.getElem_cons_succ, List.getElem_cons_zero, List.setIfInBounds_toArray, List.set_cons_succ, List.set_cons_zero])
            refine wpAnyH_take (i := 58) (v := ?_) rfl (by kernel_rfl) (by kernel_rfl) (by kernel_rfl) (fun _ _ _ h => h) (Or.inl ⟨by kernel_rfl, ?_⟩) (by assumption) ?_
            rotate_left
            · intro w hSw; (try dsimp only at hSw); (first | (go_simp; done) | (go_simp; with_reducible rfl))
            (try simp only [Act.put, List.getElem_toArray, List.getElem_cons_succ, List.getElem_cons_zero, List.setIfInBounds_toArray, List.set_cons_succ, List.set_cons_zero])
            refine wpAnyH_take (i := 59) (v := ?_) rfl (by kernel_rfl) (by kernel_rfl) (by kernel_rfl) (fun _ _ _ h => h) (Or.inl ⟨by kernel_rfl, ?_⟩) (by assumption) ?_
            rotate_left
            · intro w hSw; (try dsimp only at hSw); (first | (go_simp; done) | (go_simp; with_reducible rfl))
            (try simp only [Act.put, List.getElem_toArray, List.getElem_cons_succ, List.getElem_cons_zero, List.setIfInBounds_toArray, List.set_cons_succ, List.set_cons_zero])
            refine wpAnyH_take (i := 61) (v := ?_) rfl (by kernel_rfl) (by kernel_rfl) (by kernel_rfl) (fun _ _ _ h => h) (Or.inl ⟨by kernel_rfl, ?_⟩) (by assumption) ?_
            rotate_left
            · intro w hSw; (try dsimp only at hSw); (first | (go_simp; done) | (go_simp; with_reducible rfl))
            (try simp only [Act.put, List.getElem_toArray, List.getElem_cons_succ, List.getElem_cons_zero, List.setIfInBounds_toArray, List.set_cons_succ, List.set_cons_zero])
            refine wpAnyH_take (i := 62) (v := ?_) rfl (by kernel_rfl) (by kernel_rfl) (by kernel_rfl) (fun _ _ _ h => h) (Or.inl ⟨by kernel_rfl, ?_⟩) (by assumption) ?_
            rotate_left
            · intro w hSw; (try dsimp only at hSw); (first | (go_simp; done) | (go_simp; with_reducible rfl))
            (try simp only [Act.put, List.getElem_toArray, List.getElem_cons_succ, List.getElem_cons_zero, List.setIfInBounds_toArray, List.set_cons_succ, List.set_cons_zero])
            refine wpAnyH_take (i := 63) (v := ?_) rfl (by kernel_rfl) (by kernel_rfl) (by kernel_rfl) (fun _ _ _ h => h) (Or.inl ⟨by kernel_rfl, ?_⟩) (by assumption) ?_
            rotate_left
            · intro w hSw; (try dsimp only at hSw); (first | (go_simp; done) | (go_simp; with_reducible rfl))
            (try simp only [Act.put, List.getElem_toArray, List.getElem_cons_succ, List.getElem_cons_zero, List.setIfInBounds_toArray, List.set_cons_succ, List.set_cons_zero])
            refine wpAnyH_take (i := 64) (v := ?_) rfl (by kernel_rfl) (by kernel_rfl) (by kernel_rfl) (fun _ _ _ h => h) (Or.inl ⟨by kernel_rfl, ?_⟩) (by assumption) ?_
            rotate_left
            · intro w hSw; (try dsimp only at hSw); (first | (go_simp; done) | (go_simp; with_reducible rfl))
            (try simp only [Act.put, List.getElem_toArray, List.getElem_cons_succ, List.getElem_cons_zero, List.setIfInBounds_toArray, List.set_cons_succ, List.set_cons_zero])
            refine wpAnyH_ready (rs := [60]) (by kernel_rfl) (by simp) ?_
            refine AllReadyH.cons (i := 60) rfl (fun K hK => ?_) AllReadyH.nil
            (try dsimp (config := { proj := false }) only [List.getElem_toArray, List.getElem_cons_succ, List.getElem_cons_zero])
            go_simp
            refine (HHDZ.out _ ?_).mono ?_
            · (repeat (first | assumption | exact Mod.refl _ _ | refine Mod.drew ?_ | refine Mod.alloc ?_ _))
            rintro e vh ⟨p60, c60, rfl, hv60, hq⟩
            have hmvh : Mod nil w5 vh := (show Mod nil w5 _ from by (repeat (first | assumption | exact Mod.refl _ _ | refine Mod.drew ?_ | refine Mod.alloc ?_ _))).thenNil hq
            clear hq
            refine hK.out _ _ (HK.out _ (by (repeat (first | assumption | exact Mod.refl _ _ | refine Mod.drew ?_ | refine Mod.alloc ?_ _)))) (fun hHeld => ?_)
            clear hK K
            (try simp only [Act.put, List.setIfInBounds_toArray, List.set_cons_zero, List.set_cons_succ])
            (try simp only [List.set_cons_succ, List.set_cons_zero])
            refine wpAnyH_ready (rs := [65]) (by kernel_rfl) (by simp) ?_
            refine AllReadyH.cons (i := 65) rfl (fun K hK => ?_) AllReadyH.nil
            (try dsimp (config := { proj := false }) only [List.getElem_toArray, List.getElem_cons_succ, List.getElem_cons_zero])
            go_simp
            refine (HHDY.out _ ?_).mono ?_
            · (repeat (first | assumption | exact Mod.refl _ _ | refine Mod.drew ?_ | refine Mod.alloc ?_ _))
            rintro e vi ⟨p65, c65, rfl, hv65, hq⟩
            have hmvi : Mod nil w5 vi := (show Mod nil w5 _ from by (repeat (first | assumption | exact Mod.refl _ _ | refine Mod.drew ?_ | refine Mod.alloc ?_ _))).thenNil hq
            have hr60 := hv60.row.modNil hq
            clear hq hv60
            refine hK.out _ _ (HK.out _ (by (repeat (first | assumption | exact Mod.refl _ _ | refine Mod.drew ?_ | refine Mod.alloc ?_ _)))) (fun hHeld => ?_)
            clear hK K
            (try simp only [Act.put, List.setIfInBounds_toArray, List.set_cons_zero, List.set_cons_succ])
            (try simp only [List.set_cons_succ, List.set_cons_zero])
            refine wpAnyH_ready (rs := [66]) (by kernel_rfl) (by simp) ?_
            refine AllReadyH.cons (i := 66) rfl (fun K hK => ?_) AllReadyH.nil
            (try dsimp (config := { proj := false }) only [List.getElem_toArray, List.getElem_cons_succ, List.getElem_cons_zero])
            go_simp
            refine (refBytesW _ _ _ _ _ _ _ hr60 hv65.row).mono ?_
            rw [decide_eq_true rfl]
            rintro e w' ⟨rfl, rfl⟩
            refine hK.out _ _ (HK.out _ (by (repeat (first | assumption | exact Mod.refl _ _ | refine Mod.drew ?_ | refine Mod.alloc ?_ _)))) (fun hHeld => ?_)
            clear hK K
            (try simp only [Act.put, List.setIfInBounds_toArray, List.set_cons_zero, List.set_cons_succ])
            (try simp only [List.set_cons_succ, List.set_cons_zero])
            refine wpAnyH_take (i := 67) (v := ?_) rfl (by kernel_rfl) (by kernel_rfl) (by kernel_rfl) (fun _ _ _ h => h) (Or.inl ⟨by kernel_rfl, ?_⟩) (by assumption) ?_
            rotate_left
            · intro w hSw; (try dsimp only at hSw); (first | (go_simp; done) | (go_simp; with_reducible rfl))
            (try simp only [Act.put, List.getElem_toArray, List.getElem_cons_succ, List.getElem_cons_zero, List.setIfInBounds_toArray, List.set_cons_succ, List.set_cons_zero])
            refine wpAnyH_take (i := 68) (v := ?_) rfl (by kernel_rfl) (by kernel_rfl) (by kernel_rfl) (fun _ _ _ h => h) (Or.inl ⟨by kernel_rfl, ?_⟩) (by assumption) ?_
            rotate_left
            · intro w hSw; (try dsimp only at hSw); (first | (go_simp; done) | (go_simp; with_reducible rfl))
            (try simp only [Act.put, List.getElem_toArray, List.getElem_cons_succ, List.getElem_cons_zero, List.setIfInBounds_toArray, List.set_cons_succ, List.set_cons_zero])
            refine wpAnyH_take (i := 69) (v := ?_) rfl (by kernel_rfl) (by kernel_rfl) (by kernel_rfl) (fun _ _ _ h => h) (Or.inl ⟨by kernel_rfl, ?_⟩) (by assumption) ?_
            rotate_left
            · intro w hSw; (try dsimp only at hSw); (first | (go_simp; done) | (go_simp; with_reducible rfl))
            (try simp only [Act.put, List.getElem_toArray, List.getElem_cons_succ, List.getElem_cons_zero, List.setIfInBounds_toArray, List.set_cons_succ, List.set_cons_zero])
            refine wpAnyH_take (i := 70) (v := ?_) rfl (by kernel_rfl) (by kernel_rfl) (by kernel_rfl) (fun _ _ _ h => h) (Or.inl ⟨by kernel_rfl, ?_⟩) (by assumption) ?_
            rotate_left
            · intro w hSw; (try dsimp only at hSw); (first | (go_simp; done) | (go_simp; with_reducible rfl))
            (try simp only [Act.put, List.getElem_toArray, List.getElem_cons_succ, List.getElem_cons_zero, List.setIfInBounds_toArray, List.set_cons_succ, List.set_cons_zero])
            refine wpAnyH_take (i := 71) (v := ?_) rfl (by kernel_rfl) (by kernel_rfl) (by kernel_rfl) (fun _ _ _ h => h) (Or.inl ⟨by kernel_rfl, ?_⟩) (by assumption) ?_
            rotate_left
            · intro w hSw; (try dsimp only at hSw); (first | (go_simp; done) | (go_simp; with_reducible rfl))
            (try simp only [Act.put, List.getElem_toArray, List.getElem_cons_succ, List.getElem_cons_zero, List.setIfInBounds_toArray, List.set_cons_succ, List.set_cons_zero])
            refine wpAnyH_take (i := 72) (v := ?_) rfl (by kernel_rfl) (by kernel_rfl) (by kernel_rfl) (fun _ _ _ h => h) (Or.inl ⟨by kernel_rfl, ?_⟩) (by assumption) ?_
            rotate_left
            · intro w hSw; (try dsimp only at hSw); (first | (go_simp; done) | (go_simp; with_reducible rfl))
            (try simp only [Act.put, List.getElem_toArray, List.getElem_cons_succ, List.getElem_cons_zero, List.setIfInBounds_toArray, List.set_cons_succ, List.set_cons_zero])
            refine wpAnyH_take (i := 74) (v := ?_) rfl (by kernel_rfl) (by kernel_rfl) (by kernel_rfl) (fun _ _ _ h => h) (Or.inl ⟨by kernel_rfl, ?_⟩) (by assumption) ?_
            rotate_left
            · intro w hSw; (try dsimp only at hSw); (first | (go_simp; done) | (go_simp; with_reducible rfl))
            (try simp only [Act.put, List.getElem_toArray, List.getElem_cons_succ, List.getElem_cons_zero, List.setIfInBounds_toArray, List.set_cons_succ, List.set_cons_zero])
            refine wpAnyH_take (i := 75) (v := ?_) rfl (by kernel_rfl) (by kernel_rfl) (by kernel_rfl) (fun _ _ _ h => h) (Or.inl ⟨by kernel_rfl, ?_⟩) (by assumption) ?_
            rotate_left
            · intro w hSw; (try dsimp only at hSw); (first | (go_simp; done) | (go_simp; with_reducible rfl))
            (try simp only [Act.put, List.getElem_toArray, List.getElem_cons_succ, List.getElem_cons_zero, List.setIfInBounds_toArray, List.set_cons_succ, List.set_cons_zero])
            refine wpAnyH_ready (rs := [73]) (by kernel_rfl) (by simp) ?_
            refine AllReadyH.cons (i := 73) rfl (fun K hK => ?_) AllReadyH.nil
            (try dsimp (config := { proj := false }) only [List.getElem_toArray, List.getElem_cons_succ, List.getElem_cons_zero])
            go_simp
            refine (HLEN.out _ ?_).mono ?_
            · (repeat (first | assumption | exact Mod.refl _ _ | refine Mod.drew ?_ | refine Mod.alloc ?_ _))
            rintro e w' ⟨rfl, rfl⟩
            refine hK.out _ _ (HK.out _ (by (repeat (first | assumption | exact Mod.refl _ _ | refine Mod.drew ?_ | refine Mod.alloc ?_ _)))) (fun hHeld => ?_)
            clear hK K
            (try simp only [Act.put, List.setIfInBounds_toArray, List.set_cons_zero, List.set_cons_succ])
            (try simp only [List.set_cons_succ, List.set_cons_zero])
            refine wpAnyH_take (i := 76) (v := ?_) rfl (by kernel_rfl) (by kernel_rfl) (by kernel_rfl) (fun _ _ _ h => h) (Or.inl ⟨by kernel_rfl, ?_⟩) (by assumption) ?_
            rotate_left
            · intro w hSw; (try dsimp only at hSw); (first | (go_simp; done) | (go_simp; with_reducible rfl))
            (try simp only [Act.put, List.getElem_toArray, List.getElem_cons_succ, List.getElem_cons_zero, List.setIfInBounds_toArray, List.set_cons_succ, List.set_cons_zero])
            refine wpAnyH_take (i := 77) (v := ?_) rfl (by kernel_rfl) (by kernel_rfl) (by kernel_rfl) (fun _ _ _ h => h) (Or.inl ⟨by kernel_rfl, ?_⟩) (by assumption) ?_
            rotate_left
            · intro w hSw; (try dsimp only at hSw); (first | (go_simp; done) | (go_simp; with_reducible rfl))
            (try simp only [Act.put, List.getElem_toArray, List.getElem_cons_succ, List.getElem_cons_zero, List.setIfInBounds_toArray, List.set_cons_succ, List.set_cons_zero])
            refine wpAnyH_take (i := 78) (v := ?_) rfl (by kernel_rfl) (by kernel_rfl) (by kernel_rfl) (fun _ _ _ h => h) (Or.inl ⟨by kernel_rfl, ?_⟩) (by assumption) ?_
            rotate_left
            · intro w hSw; (try dsimp only at hSw); (first | (go_simp; done) | (go_simp; with_reducible rfl))
            (try simp only [Act.put, List.getElem_toArray, List.getElem_cons_succ, List.getElem_cons_zero, List.setIfInBounds_toArray, List.set_cons_succ, List.set_cons_zero])
            refine wpAnyH_done (by kernel_rfl) ?_ _
            go_wp2_with fail
            exact HEND.out _ (by (repeat (first | assumption | exact Mod.refl _ _ | refine Mod.drew ?_ | refine Mod.alloc ?_ _)))
set_option maxRecDepth 100000 in
theorem walkDiaryBundle (v0 : Value) (W : World) (r0 : Rd W 33 v0) :
    Calls Tryz.prog 4 #[v0] W fun e w' => e = .returned (.bool true) ∧ Below W.heap.size W w' := by
  obtain ⟨p, len, cap, l, rfl, hll, hm, hl, hb⟩ := r0.entries
  exact (lawDBundle p len cap l W hl (by unfold maxLen at hm; omega) hb).mono fun e w' ⟨h1, h2⟩ => ⟨h1, h2.below⟩
end Go.Proofs.YtjjcmdblohbneaaGreat

/- cflref18.Encode. (Printed by wip/tools/gen_refencode.py.) -/
import Derived.Test.YtdfpmlfdmhlhcaaGreatRefEnc
import Derived.Lib.ConvBytes
namespace Go.Proofs.YtdfpmlfdmhlhcaaGreat
open Go.RowKit

theorem textRow (w : World) (l : List UInt8) : ∃ c w', (convert 9 26 (.string ⟨l.toArray⟩)).run Tryz.prog w = .ok (.slice (some ⟨w.heap.size, 0, none⟩) l.length c) w' ∧ IsRow (fun k => w.heap.size ≤ k) w' (.slice (some ⟨w.heap.size, 0, none⟩) l.length c) (bys l) ∧ Mod nil w w' := by
  refine ⟨_, _, Lib.run_convert_string_bytes w 9 26 5 ⟨l.toArray⟩ Tryz.underlying9 Tryz.underlying26 Tryz.underlying5, ⟨_, _, by rw [bys_length], fun i hi => ?_⟩, ?_⟩
  · rw [bys_length] at hi
    refine ⟨w.heap.size, 0, rfl, Nat.le_refl _, by rw [Lib.bytesWorld_size]; omega, ?_⟩
    rw [Nat.zero_add, Lib.bytesWorld_cell w _ ⟨l.toArray⟩ i (show i < (⟨l.toArray⟩ : ByteArray).size from hi), bys_getD _ _ hi]
  · exact ⟨rfl, rfl, rfl, by rw [Lib.bytesWorld_size]; omega, fun k hk _ => Lib.bytesWorld_at_old w _ _ k hk⟩
set_option maxRecDepth 100000 in
set_option maxHeartbeats 8000000 in
theorem refEncode (S : Nat → Prop) (v : Value) (P : Pl) (w : World) (hp : IsPl S w v P) (hc : PlCap v P) (hf : P.few) (hh : P.hash.length ≤ 1000000000) :
    Calls Tryz.prog 42 #[v] w fun e w' => ∃ vb, e = .returned (.tuple #[vb, .int .i64 (encF P).2]) ∧ IsRow (fun k => w.heap.size ≤ k) w' vb (bys (encF P).1) ∧ Mod nil w w' := by
  refine (?_ : ∀ Post : Ending → World → Prop, Hid (∀ e w', (∃ vb, e = .returned (.tuple #[vb, .int .i64 (encF P).2]) ∧ IsRow (fun k => w.heap.size ≤ k) w' vb (bys (encF P).1) ∧ Mod nil w w') → Post e w') → Calls Tryz.prog 42 #[v] w Post) _ (Lib.hid (fun _ _ h => h))
  intro Post HPOST
  obtain ⟨p1, c1, p2, c2, p7, c7, rfl, hps, hls, hdl⟩ := id hp
  have HPL := Lib.hid hp
  obtain ⟨deal, ps, ls, Z, start, eps, wait, dl⟩ := P
  simp only at *
  obtain ⟨np, hnp⟩ : ∃ n, ps.length = n := ⟨_, rfl⟩
  obtain ⟨nl, hnl⟩ : ∃ n, ls.length = n := ⟨_, rfl⟩
  obtain ⟨nd, hnd⟩ : ∃ n, dl.length = n := ⟨_, rfl⟩
  have hc' := hc
  rw [hnp] at hps HPL hc' ⊢
  rw [hnl] at hls HPL hc' ⊢
  rw [hnd] at hdl HPL hc' ⊢
  have HPC := Lib.hid hc'
  have HPS := Lib.hid hps
  have HLS := Lib.hid hls
  have HNP := Lib.hid hnp
  have HNL := Lib.hid hnl
  have HFEW := Lib.hid hf
  obtain ⟨r, hr⟩ : ∃ r, w.heap.size = r := ⟨_, rfl⟩
  clear hp hps hls hdl hnp hnl hnd hf hc hc'
  go_enter Tryz.func42, Tryz.ntmps42
  go_upto_region 1 with (fail)
  (try rw [hr])
  generalize hw1 : World.alloc w _ = w1
  have hm1 : Mod nil w w1 := by rw [← hw1]; exact (Mod.refl _ _).alloc _
  have hb1 : w1.heap[r]? = some (.cells #[.int .i64 deal, .slice p1 np c1, .slice p2 nl c2, .string ⟨Z.toArray⟩, .int .i64 start, .int .i64 eps, .int .i64 wait, .slice p7 nd c7] 25 (0, 0)) := by rw [← hw1, ← hr]; exact heap_alloc_new _ _
  have a0 := cell_of hb1 0
  have a1 := cell_of hb1 1
  have a2 := cell_of hb1 2
  have a3 := cell_of hb1 3
  have a4 := cell_of hb1 4
  have a5 := cell_of hb1 5
  have a6 := cell_of hb1 6
  have a7 := cell_of hb1 7
  simp only [List.getElem?_toArray, List.getElem?_cons_zero, List.getElem?_cons_succ] at a0 a1 a2 a3 a4 a5 a6 a7
  have HM1 := Lib.hid hm1
  have HWR : Hid (w.heap.size = r) := Lib.hid hr
  clear hw1 hm1 hb1 hr
  have HC := Lib.hid (refCheck _ _ ⟨deal, ps, ls, Z, start, eps, wait, dl⟩ 16 4 4 w1 (HPL.out.modNil HM1.out) HPC.out HFEW.out hh)
  by_cases hck : checkN ⟨deal, ps, ls, Z, start, eps, wait, dl⟩ 16 4 4 = 0
  case neg =>
    obtain ⟨cn, hcn⟩ : ∃ c, checkN ⟨deal, ps, ls, Z, start, eps, wait, dl⟩ 16 4 4 = c := ⟨_, rfl⟩
    have hb : (cn != 0) = true := by rw [hcn] at hck; simp [hck]
    have HEF : Hid (encF ⟨deal, ps, ls, Z, start, eps, wait, dl⟩ = ([], 16)) := Lib.hid (if_neg hck)
    rw [hcn] at HC hck
    clear hcn hck
    go_wp2_with fail
    refine HC.out.mono ?_
    rintro e w3 ⟨rfl, hm3⟩
    have HE := Lib.hid (HPOST.out _ w3 ⟨.slice none 0 0, by rw [HEF.out], by rw [HEF.out]; exact (IsVec.nil (fun k => w.heap.size ≤ k) w3 5 1).row, HM1.out.thenNil hm3⟩)
    clear hm3 a0 a1 a2 a3 a4 a5 a6 a7
    go_wp2_with fail
    exact HE.out
  have HEF : Hid (encF ⟨deal, ps, ls, Z, start, eps, wait, dl⟩ = (Pl.bytes ⟨deal, ps, ls, Z, start, eps, wait, dl⟩, 0)) := Lib.hid (if_pos hck)
  have hms := make_own (P := ⟨deal, ps, ls, Z, start, eps, wait, dl⟩) (checkN_self hck)
  rw [hck] at HC
  clear hck
  go_wp2_with fail
  refine HC.out.mono ?_
  rintro e w2 ⟨rfl, hm2⟩
  have a0' := cell_kept a0 hm2 (World.block_lt_of_cell? _ _ a0) (not_nil _)
  clear a0
  have a0 := a0'
  clear a0'
  have a1' := cell_kept a1 hm2 (World.block_lt_of_cell? _ _ a1) (not_nil _)
  clear a1
  have a1 := a1'
  clear a1'
  have a2' := cell_kept a2 hm2 (World.block_lt_of_cell? _ _ a2) (not_nil _)
  clear a2
  have a2 := a2'
  clear a2'
  have a3' := cell_kept a3 hm2 (World.block_lt_of_cell? _ _ a3) (not_nil _)
  clear a3
  have a3 := a3'
  clear a3'
  have a4' := cell_kept a4 hm2 (World.block_lt_of_cell? _ _ a4) (not_nil _)
  clear a4
  have a4 := a4'
  clear a4'
  have a5' := cell_kept a5 hm2 (World.block_lt_of_cell? _ _ a5) (not_nil _)
  clear a5
  have a5 := a5'
  clear a5'
  have a6' := cell_kept a6 hm2 (World.block_lt_of_cell? _ _ a6) (not_nil _)
  clear a6
  have a6 := a6'
  clear a6'
  clear a7
  have HM2 := Lib.hid (HM1.out.thenNil hm2)
  obtain ⟨⟨hd1, hd2, ⟨hp2, hp16, hrng, -⟩, hnn, hlg, htk, htm⟩, -, hz⟩ := hms
  (try simp only at hd1 hd2 hp2 hp16 hrng hnn hlg htk htm hz)
  rw [HNP.out] at hp2 hp16 hnn
  have hnl16 : nl ≤ 16 := by rw [← HNL.out, hnn]; exact hp16
  obtain ⟨t1, t2, t3, t4⟩ := htm
  obtain ⟨s1, s2⟩ := htk
  have HRNG := Lib.hid hrng
  have HLG : Hid (∀ l ∈ ls, 1 ≤ l.length ∧ l.length ≤ 8 ∧ ∀ x ∈ l, x.ok) := Lib.hid (fun l hl => legB_ok (List.all_eq_true.1 hlg l hl))
  have HZ := Lib.hid hz
  have HPSL : Hid (∀ i, i < np → ∃ x, ps.getD i 0 = x ∧ 0 ≤ x ∧ x < 16 ∧ ps.take (i + 1) = ps.take i ++ [x]) := Lib.hid (fun i hi => by
    have hi' : i < ps.length := by rw [HNP.out]; exact hi
    obtain ⟨h1, h2⟩ := HRNG.out ps[i] (List.getElem_mem _)
    exact ⟨ps[i], by simp [hi'], h1, h2, List.take_succ_eq_append_getElem hi'⟩)
  have HLEN1 : Hid (∀ i, i ≤ np → ((ps.take i).flatMap (fun x => nb x 1)).length ≤ 16) := Lib.hid (fun i hi => by
    have h := flat_length (fun x => nb x 1) 1 (ps.take i) (fun x _ => by rw [nb_length]; omega)
    rw [List.length_take] at h
    omega)
  have HLEN2 : Hid (∀ i, i ≤ nl → ((ls.take i).flatMap legE).length ≤ 1296) := Lib.hid (fun i hi => by
    have h := flat_length legE 81 (ls.take i) (fun x hx => legE_length (HLG.out x (List.mem_of_mem_take hx)).2.1)
    rw [List.length_take] at h
    omega)
  clear hrng hlg hz hm2 hnn
  go_upto_region 4 with (fail)
  obtain ⟨b, hB⟩ : ∃ B, w2.heap.size = B := ⟨_, rfl⟩
  (try rw [hB])
  obtain ⟨B, hBb⟩ : ∃ B, B = b := ⟨_, rfl⟩
  have hrB : r < B := by have h : r < w2.heap.size := World.block_lt_of_cell? _ _ a0; omega
  have hwB : w.heap.size ≤ B := by have := HM2.out.size; omega
  generalize hw3 : World.alloc w2 _ = w3
  have m3 : Mod nil w2 w3 := by rw [← hw3]; exact (Mod.refl _ _).alloc _
  have he : IsREnc (fun k => B ≤ k) w3 b [] := ⟨by show B ≤ b; omega, none, 0, by rw [← hw3, ← hB]; exact heap_alloc_new _ _, IsVec.nil _ _ _ _⟩
  have hB3 : B ≤ w3.heap.size := by have := m3.size; omega
  have a0' := cell_kept a0 m3 (World.block_lt_of_cell? _ _ a0) (not_nil _)
  clear a0
  have a0 := a0'
  clear a0'
  have a1' := cell_kept a1 m3 (World.block_lt_of_cell? _ _ a1) (not_nil _)
  clear a1
  have a1 := a1'
  clear a1'
  have a2' := cell_kept a2 m3 (World.block_lt_of_cell? _ _ a2) (not_nil _)
  clear a2
  have a2 := a2'
  clear a2'
  have a3' := cell_kept a3 m3 (World.block_lt_of_cell? _ _ a3) (not_nil _)
  clear a3
  have a3 := a3'
  clear a3'
  have a4' := cell_kept a4 m3 (World.block_lt_of_cell? _ _ a4) (not_nil _)
  clear a4
  have a4 := a4'
  clear a4'
  have a5' := cell_kept a5 m3 (World.block_lt_of_cell? _ _ a5) (not_nil _)
  clear a5
  have a5 := a5'
  clear a5'
  have a6' := cell_kept a6 m3 (World.block_lt_of_cell? _ _ a6) (not_nil _)
  clear a6
  have a6 := a6'
  clear a6'
  have HM3 := Lib.hid (HM2.out.thenNil m3)
  have HKEEP : Hid (∀ W, Mod (fun k => B ≤ k) w3 W → W.cell? ⟨r, 0, none⟩ = some (.int .i64 deal) ∧ W.cell? ⟨r, 1, none⟩ = some (.slice p1 np c1) ∧ W.cell? ⟨r, 2, none⟩ = some (.slice p2 nl c2) ∧ W.cell? ⟨r, 3, none⟩ = some (.string ⟨Z.toArray⟩) ∧ W.cell? ⟨r, 4, none⟩ = some (.int .i64 start) ∧ W.cell? ⟨r, 5, none⟩ = some (.int .i64 eps) ∧ W.cell? ⟨r, 6, none⟩ = some (.int .i64 wait)) := Lib.hid (fun W m => ⟨cell_kept a0 m (World.block_lt_of_cell? _ _ a0) (fun h => absurd (Nat.lt_of_lt_of_le hrB h) (Nat.lt_irrefl _)), cell_kept a1 m (World.block_lt_of_cell? _ _ a1) (fun h => absurd (Nat.lt_of_lt_of_le hrB h) (Nat.lt_irrefl _)), cell_kept a2 m (World.block_lt_of_cell? _ _ a2) (fun h => absurd (Nat.lt_of_lt_of_le hrB h) (Nat.lt_irrefl _)), cell_kept a3 m (World.block_lt_of_cell? _ _ a3) (fun h => absurd (Nat.lt_of_lt_of_le hrB h) (Nat.lt_irrefl _)), cell_kept a4 m (World.block_lt_of_cell? _ _ a4) (fun h => absurd (Nat.lt_of_lt_of_le hrB h) (Nat.lt_irrefl _)), cell_kept a5 m (World.block_lt_of_cell? _ _ a5) (fun h => absurd (Nat.lt_of_lt_of_le hrB h) (Nat.lt_irrefl _)), cell_kept a6 m (World.block_lt_of_cell? _ _ a6) (fun h => absurd (Nat.lt_of_lt_of_le hrB h) (Nat.lt_irrefl _))⟩)
  have HN : Hid (∀ W, Mod (fun k => B ≤ k) w3 W → Mod nil w W) := Lib.hid (fun W m => HM3.out.new m (fun k h => by omega))
  have HE := Lib.hid he
  have M : Hid (Mod (fun k => B ≤ k) w3 w3) := Lib.hid (Mod.refl _ _)
  clear he m3 hB hw3 hBb
  go_wp2_with fail
  refine (refNum (fun k => B ≤ k) b _ deal 2 2 w3 HE.out (fun k hk => by have := M.out.size; omega) rfl (.inr (.inl rfl)) hd1 (by omega) (by omega) (by simp)).mono ?_
  rintro e w4 ⟨rfl, he2, m2⟩
  have HE2 := Lib.hid he2
  have M2 := Lib.hid (M.out.trans m2 (fun _ _ h => h))
  clear HE M he2 m2
  have HE := HE2
  have M := M2
  clear HE2 M2
  clear a0 a1 a2 a3 a4 a5 a6
  obtain ⟨a0, a1, a2, a3, a4, a5, a6⟩ := HKEEP.out w4 M.out
  go_wp2_with fail
  refine (refNum (fun k => B ≤ k) b _ np 1 1 w4 HE.out (fun k hk => by have := M.out.size; omega) rfl (.inl rfl) (by omega) (by omega) (by omega) (by simp [nb_length])).mono ?_
  rintro e w5 ⟨rfl, he2, m2⟩
  have HE2 := Lib.hid he2
  have M2 := Lib.hid (M.out.trans m2 (fun _ _ h => h))
  clear HE M he2 m2
  have HE := HE2
  have M := M2
  clear HE2 M2
  clear a0 a1 a2 a3 a4 a5 a6
  obtain ⟨a0, a1, a2, a3, a4, a5, a6⟩ := HKEEP.out w5 M.out
  go_wp2_with fail
  go_loopw [5] (fun v wr => ∃ i : Nat, i ≤ np ∧ v = .int .i64 i ∧ Hid (IsREnc (fun k => B ≤ k) wr b ([] ++ nb deal 2 ++ nb np 1 ++ (ps.take i).flatMap (fun x => nb x 1))) ∧ Hid (Mod (fun k => B ≤ k) w3 wr)) (fun v _ => np - (intOf v).toNat)
  case atStart => exact ⟨0, by omega, rfl, by simpa using HE, M⟩
  case round =>
    clear HE M
    obtain ⟨i, hi, rfl, HE, M⟩ := hrel
    clear a0 a1 a2 a3 a4 a5 a6
    obtain ⟨a0, a1, a2, a3, a4, a5, a6⟩ := HKEEP.out wr M.out
    by_cases hlt : i < np
    · obtain ⟨x, hx, hx0, hx16, htk⟩ := HPSL.out i hlt
      obtain ⟨g, o, rfl, -, -, xj⟩ := row_int (HPS.out.modNil (HN.out wr M.out)) i (by rw [HNP.out]; exact hlt)
      rw [hx] at xj
      have HL1 := HLEN1.out i hi
      have HTK := Lib.hid htk
      clear hx htk
      go_wp2_with fail
      refine (refNum (fun k => B ≤ k) b _ x 1 1 wr HE.out (fun k hk => by have := M.out.size; omega) rfl (.inl rfl) hx0 (by omega) (by omega) (by simp only [List.length_append, nb_length, List.length_nil]; omega)).mono ?_
      rintro e w6 ⟨rfl, he2, m2⟩
      have HE2 := Lib.hid he2
      have M2 := Lib.hid (M.out.trans m2 (fun _ _ h => h))
      clear HE M he2 m2
      have HE := HE2
      have M := M2
      clear HE2 M2
      clear a0 a1 a2 a3 a4 a5 a6
      obtain ⟨a0, a1, a2, a3, a4, a5, a6⟩ := HKEEP.out w6 M.out
      have HE7 : Hid (IsREnc (fun k => B ≤ k) w6 b ([] ++ nb deal 2 ++ nb np 1 ++ (ps.take (i + 1)).flatMap (fun x => nb x 1))) := Lib.hid (by
        have h := HE.out
        rw [List.append_assoc (_ ++ nb np 1)] at h
        rw [HTK.out, List.flatMap_append]
        simpa using h)
      clear HE
      go_wp2_with fail
      exact ⟨⟨i + 1, by omega, by go_num, HE7, M⟩, by simp [intOf]; omega⟩
    · obtain rfl : np = i := by omega
      have HE8 : Hid (IsREnc (fun k => B ≤ k) wr b ([] ++ nb deal 2 ++ nb np 1 ++ ps.flatMap (fun x => nb x 1))) := Lib.hid (by
        have h := HE.out
        rw [List.take_of_length_le (by rw [HNP.out]; exact Nat.le_refl _)] at h
        exact h)
      have hlf : (ps.flatMap (fun x => nb x 1)).length ≤ 16 := by
        have h := HLEN1.out np (Nat.le_refl _)
        rw [List.take_of_length_le (by rw [HNP.out]; exact Nat.le_refl _)] at h
        exact h
      obtain ⟨F1, hF1⟩ : ∃ l, [] ++ nb deal 2 ++ nb np 1 ++ ps.flatMap (fun x => nb x 1) = l := ⟨_, rfl⟩
      have hF1l : F1.length ≤ 19 := by rw [← hF1]; simp only [List.length_append, nb_length, List.length_nil]; omega
      rw [hF1] at HE8
      have HF1 := Lib.hid hF1
      clear HE hlf hF1
      have HE := HE8
      obtain ⟨w5b, rfl⟩ : ∃ W, W = wr := ⟨_, rfl⟩
      clear HE8
      go_wp2_with fail
      go_loopw [6] (fun v wr => ∃ i : Nat, i ≤ nl ∧ v = .int .i64 i ∧ Hid (IsREnc (fun k => B ≤ k) wr b (F1 ++ (ls.take i).flatMap legE)) ∧ Hid (Mod (fun k => B ≤ k) w3 wr)) (fun v _ => nl - (intOf v).toNat)
      case atStart => exact ⟨0, by omega, rfl, by simpa using HE, M⟩
      case round =>
        clear HE M
        obtain ⟨i, hi, rfl, HE, M⟩ := hrel
        clear a0 a1 a2 a3 a4 a5 a6
        obtain ⟨a0, a1, a2, a3, a4, a5, a6⟩ := HKEEP.out wr M.out
        by_cases hlt : i < nl
        · have hil : i < ls.length := by rw [HNL.out]; exact hlt
          obtain ⟨g, o, x, rfl, -, hgw, hx, hits⟩ := HLS.out.at i hil
          obtain ⟨l, hll⟩ : ∃ l, ls[i] = l := ⟨_, rfl⟩
          rw [hll] at hits
          obtain ⟨px, cx, rfl⟩ := hits.form
          obtain ⟨hl1, hl8, hlx⟩ := HLG.out l (by rw [← hll]; exact List.getElem_mem _)
          have HTK : Hid (ls.take (i + 1) = ls.take i ++ [l]) := Lib.hid (by rw [List.take_succ_eq_append_getElem hil, hll])
          obtain ⟨n, hn⟩ : ∃ n, l.length = n := ⟨_, rfl⟩
          rw [hn] at hx hits hl1 hl8
          have HXC : Hid (∀ W, Mod (fun k => B ≤ k) w3 W → W.cell? ⟨g, o + i, none⟩ = some (.slice px n cx)) := Lib.hid (fun W m => cell_kept hx (HN.out W m) hgw (not_nil _))
          clear hx
          have hx := HXC.out wr M.out
          have HNN := Lib.hid hn
          have HLX := Lib.hid hlx
          have HITS := Lib.hid hits
          have HL2 := HLEN2.out i hi
          obtain ⟨F2, hF2⟩ : ∃ l, F1 ++ (ls.take i).flatMap legE = l := ⟨_, rfl⟩
          have hF2l : F2.length ≤ 1400 := by rw [← hF2]; simp only [List.length_append]; omega
          rw [hF2] at HE
          have HF2 := Lib.hid hF2
          clear hll hn hlx hits hF2 HL2
          obtain ⟨w6, rfl⟩ : ∃ W, W = wr := ⟨_, rfl⟩
          go_wp2_with fail
          refine (refNum (fun k => B ≤ k) b _ n 1 1 w6 HE.out (fun k hk => by have := M.out.size; omega) rfl (.inl rfl) (by omega) (by omega) (by omega) (by omega)).mono ?_
          rintro e w7 ⟨rfl, he2, m2⟩
          have HE2 := Lib.hid he2
          have M2 := Lib.hid (M.out.trans m2 (fun _ _ h => h))
          clear HE M he2 m2
          have HE := HE2
          have M := M2
          clear HE2 M2
          clear a0 a1 a2 a3 a4 a5 a6
          obtain ⟨a0, a1, a2, a3, a4, a5, a6⟩ := HKEEP.out w7 M.out
          clear hx
          go_wp2_with fail
          go_loopw [7] (fun v wr => ∃ j : Nat, j ≤ n ∧ v = .int .i64 j ∧ Hid (IsREnc (fun k => B ≤ k) wr b (F2 ++ nb n 1 ++ (l.take j).flatMap It.bytes)) ∧ Hid (Mod (fun k => B ≤ k) w3 wr)) (fun v _ => n - (intOf v).toNat)
          case atStart => exact ⟨0, by omega, rfl, by simpa using HE, M⟩
          case round =>
            clear HE M
            obtain ⟨j, hj, rfl, HE, M⟩ := hrel
            have hx := HXC.out wr M.out
            clear a0 a1 a2 a3 a4 a5 a6
            obtain ⟨a0, a1, a2, a3, a4, a5, a6⟩ := HKEEP.out wr M.out
            have HLJ : ((l.take j).flatMap It.bytes).length ≤ 80 := by
              have h := flat_length It.bytes 10 (l.take j) (fun x _ => by rw [It.bytes_length]; omega)
              rw [List.length_take] at h
              omega
            by_cases hlt2 : j < n
            · have hjl : j < l.length := by rw [HNN.out]; exact hlt2
              obtain ⟨g2, o2, rfl, -, -, k0, k1, k2⟩ := (HITS.out.modNil (HN.out wr M.out)).at j hjl
              obtain ⟨x, hxx⟩ : ∃ x, l[j] = x := ⟨_, rfl⟩
              rw [hxx] at k0 k1 k2
              have HTJ : Hid (l.take (j + 1) = l.take j ++ [x]) := Lib.hid (by rw [List.take_succ_eq_append_getElem hjl, hxx])
              have hok := HLX.out x (by rw [← hxx]; exact List.getElem_mem _)
              obtain ⟨led, asset, amt⟩ := x
              simp only at k0 k1 k2
              obtain ⟨F3, hF3⟩ : ∃ q, F2 ++ nb n 1 ++ (l.take j).flatMap It.bytes = q := ⟨_, rfl⟩
              have hF3l : F3.length ≤ 1500 := by rw [← hF3]; simp only [List.length_append, nb_length]; omega
              rw [hF3] at HE
              have HF3 := Lib.hid hF3
              obtain ⟨o0, o1, o2', o3, o4, o5⟩ : 0 ≤ led ∧ led ≤ 1 ∧ 0 ≤ asset ∧ asset ≤ 3 ∧ 1 ≤ amt ∧ amt ≤ 4611686018427387904 := by simp only [It.ok] at hok; omega
              clear hxx hF3 HLJ hok
              go_upto_region 18 with (fail)
              obtain ⟨g5, hg5⟩ : ∃ g, wr.heap.size = g := ⟨_, rfl⟩
              (try rw [hg5])
              generalize hw8 : World.alloc wr _ = w8
              have hm8 : Mod nil wr w8 := by rw [← hw8]; exact (Mod.refl _ _).alloc _
              have hb8 : w8.heap[g5]? = some (.cells #[.int .i64 led, .int .i64 asset, .int .i64 amt] 135 (0, 0)) := by rw [← hw8, ← hg5]; exact heap_alloc_new _ _
              have y0 := cell_of hb8 0
              have y1 := cell_of hb8 1
              have y2 := cell_of hb8 2
              simp only [List.getElem?_toArray, List.getElem?_cons_zero, List.getElem?_cons_succ] at y0 y1 y2
              have HE8 : Hid (IsREnc (fun k => B ≤ k ∧ k ≠ g5) w8 b F3) := Lib.hid ((HE.out.mono (fun k hk h => ⟨h, by omega⟩)).modNil hm8)
              have M8 : Hid (Mod (fun k => B ≤ k) w3 w8) := Lib.hid (M.out.thenNil hm8)
              have hg5B : B ≤ g5 := by have := M.out.size; omega
              clear HE M hg5
              have hg5 : g5 < w8.heap.size := heap_lt hb8
              have HE := HE8
              have M := M8
              clear HE8 M8 hw8 hm8 hb8 k0 k1 k2 hx
              clear a0 a1 a2 a3 a4 a5 a6
              obtain ⟨a0, a1, a2, a3, a4, a5, a6⟩ := HKEEP.out w8 M.out
              go_wp2_with fail
              refine (refNum (fun k => B ≤ k ∧ k ≠ g5) b _ led 1 1 w8 HE.out (fun k hk => by have := M.out.size; omega) rfl (.inl rfl) o0 (by omega) (by omega) (by omega)).mono ?_
              rintro e w9 ⟨rfl, he2, m2⟩
              have HE2 := Lib.hid he2
              have M2 := Lib.hid (M.out.trans m2 (fun _ _ h => h.1))
              have y0' := cell_kept y0 m2 (World.block_lt_of_cell? _ _ y0) (fun h => h.2 rfl)
              clear y0
              have y0 := y0'
              clear y0'
              have y1' := cell_kept y1 m2 (World.block_lt_of_cell? _ _ y1) (fun h => h.2 rfl)
              clear y1
              have y1 := y1'
              clear y1'
              have y2' := cell_kept y2 m2 (World.block_lt_of_cell? _ _ y2) (fun h => h.2 rfl)
              clear y2
              have y2 := y2'
              clear y2'
              have hg5' := Nat.lt_of_lt_of_le hg5 m2.size
              clear hg5
              have hg5 := hg5'
              clear hg5'
              clear HE M he2 m2
              have HE := HE2
              have M := M2
              clear HE2 M2
              clear a0 a1 a2 a3 a4 a5 a6
              obtain ⟨a0, a1, a2, a3, a4, a5, a6⟩ := HKEEP.out w9 M.out
              go_wp2_with fail
              refine (refNum (fun k => B ≤ k ∧ k ≠ g5) b _ asset 1 1 w9 HE.out (fun k hk => by have := M.out.size; omega) rfl (.inl rfl) o2' (by omega) (by omega) (by simp only [List.length_append, nb_length]; omega)).mono ?_
              rintro e w10 ⟨rfl, he2, m2⟩
              have HE2 := Lib.hid he2
              have M2 := Lib.hid (M.out.trans m2 (fun _ _ h => h.1))
              have y0' := cell_kept y0 m2 (World.block_lt_of_cell? _ _ y0) (fun h => h.2 rfl)
              clear y0
              have y0 := y0'
              clear y0'
              have y1' := cell_kept y1 m2 (World.block_lt_of_cell? _ _ y1) (fun h => h.2 rfl)
              clear y1
              have y1 := y1'
              clear y1'
              have y2' := cell_kept y2 m2 (World.block_lt_of_cell? _ _ y2) (fun h => h.2 rfl)
              clear y2
              have y2 := y2'
              clear y2'
              have hg5' := Nat.lt_of_lt_of_le hg5 m2.size
              clear hg5
              have hg5 := hg5'
              clear hg5'
              clear HE M he2 m2
              have HE := HE2
              have M := M2
              clear HE2 M2
              clear a0 a1 a2 a3 a4 a5 a6
              obtain ⟨a0, a1, a2, a3, a4, a5, a6⟩ := HKEEP.out w10 M.out
              go_wp2_with fail
              refine (refNum (fun k => B ≤ k ∧ k ≠ g5) b _ amt 8 8 w10 HE.out (fun k hk => by have := M.out.size; omega) rfl (.inr (.inr rfl)) (by omega) (by omega) (by omega) (by simp only [List.length_append, nb_length]; omega)).mono ?_
              rintro e w11 ⟨rfl, he2, m2⟩
              have HE2 := Lib.hid he2
              have M2 := Lib.hid (M.out.trans m2 (fun _ _ h => h.1))
              have y0' := cell_kept y0 m2 (World.block_lt_of_cell? _ _ y0) (fun h => h.2 rfl)
              clear y0
              have y0 := y0'
              clear y0'
              have y1' := cell_kept y1 m2 (World.block_lt_of_cell? _ _ y1) (fun h => h.2 rfl)
              clear y1
              have y1 := y1'
              clear y1'
              have y2' := cell_kept y2 m2 (World.block_lt_of_cell? _ _ y2) (fun h => h.2 rfl)
              clear y2
              have y2 := y2'
              clear y2'
              have hg5' := Nat.lt_of_lt_of_le hg5 m2.size
              clear hg5
              have hg5 := hg5'
              clear hg5'
              clear HE M he2 m2
              have HE := HE2
              have M := M2
              clear HE2 M2
              clear a0 a1 a2 a3 a4 a5 a6
              obtain ⟨a0, a1, a2, a3, a4, a5, a6⟩ := HKEEP.out w11 M.out
              have HE12 : Hid (IsREnc (fun k => B ≤ k) w11 b (F2 ++ nb n 1 ++ (l.take (j + 1)).flatMap It.bytes)) := Lib.hid (by
                have h := HE.out.mono (T := (fun k => B ≤ k)) (fun _ _ h => h.1)
                rw [HTJ.out, List.flatMap_append, ← List.append_assoc, HF3.out]
                simpa [It.bytes] using h)
              clear HE y0 y1 y2
              go_wp2_with fail
              exact ⟨⟨j + 1, by omega, by go_num, HE12, M⟩, by simp [intOf]; omega⟩
            · obtain rfl : n = j := by omega
              have HE8 : Hid (IsREnc (fun k => B ≤ k) wr b (F1 ++ (ls.take (i + 1)).flatMap legE)) := Lib.hid (by
                have h := HE.out
                rw [List.take_of_length_le (by rw [HNN.out]; exact Nat.le_refl _)] at h
                rw [HTK.out, List.flatMap_append, ← List.append_assoc, HF2.out]
                simpa [legE, HNN.out] using h)
              clear HE HLJ
              go_wp2_with fail
              exact ⟨⟨i + 1, by omega, by go_num, HE8, M⟩, by simp [intOf]; omega⟩
        · obtain rfl : nl = i := by omega
          have HE8 : Hid (IsREnc (fun k => B ≤ k) wr b (F1 ++ ls.flatMap legE)) := Lib.hid (by
            have h := HE.out
            rw [List.take_of_length_le (by rw [HNL.out]; exact Nat.le_refl _)] at h
            exact h)
          have hlf : (ls.flatMap legE).length ≤ 1296 := by
            have h := HLEN2.out nl (Nat.le_refl _)
            rw [List.take_of_length_le (by rw [HNL.out]; exact Nat.le_refl _)] at h
            exact h
          obtain ⟨F4, hF4⟩ : ∃ l, F1 ++ ls.flatMap legE = l := ⟨_, rfl⟩
          have hF4l : F4.length ≤ 1400 := by rw [← hF4]; simp only [List.length_append]; omega
          rw [hF4] at HE8
          have HF4 := Lib.hid hF4
          clear HE hlf hF4
          have HE := HE8
          clear HE8
          obtain ⟨w12, rfl⟩ : ∃ W, W = wr := ⟨_, rfl⟩
          obtain ⟨cz, w13, hconv, hrow, m13⟩ := textRow w12 Z
          rw [HZ.out] at hconv hrow
          have HROWZ := Lib.hid hrow
          have HE2 := Lib.hid (HE.out.modNil m13)
          have M2 := Lib.hid (M.out.thenNil m13)
          clear hrow m13 HE M
          have HE := HE2
          have M := M2
          clear HE2 M2
          go_wp2_with fail
          clear hconv
          refine (refRaw (fun k => B ≤ k) _ b _ Z _ w13 HE.out (fun k hk => by have := M.out.size; omega) HROWZ.out (by rw [HZ.out]; omega)).mono ?_
          rintro e w14 ⟨rfl, he2, m2⟩
          have HE2 := Lib.hid he2
          have M2 := Lib.hid (M.out.trans m2 (fun _ _ h => h))
          clear HE M he2 m2 HROWZ
          have HE := HE2
          have M := M2
          clear HE2 M2
          clear a0 a1 a2 a3 a4 a5 a6
          obtain ⟨a0, a1, a2, a3, a4, a5, a6⟩ := HKEEP.out w14 M.out
          obtain ⟨F5, hF5⟩ : ∃ l, F4 ++ Z = l := ⟨_, rfl⟩
          have hF5l : F5.length ≤ 1500 := by rw [← hF5]; simp only [List.length_append]; rw [HZ.out]; omega
          rw [hF5] at HE
          have HF5 := Lib.hid hF5
          clear hF5
          go_wp2_with fail
          refine (refNum (fun k => B ≤ k) b _ start 8 8 w14 HE.out (fun k hk => by have := M.out.size; omega) rfl (.inr (.inr rfl)) s1 (by omega) (by omega) (by omega)).mono ?_
          rintro e w15 ⟨rfl, he2, m2⟩
          have HE2 := Lib.hid he2
          have M2 := Lib.hid (M.out.trans m2 (fun _ _ h => h))
          clear HE M he2 m2
          have HE := HE2
          have M := M2
          clear HE2 M2
          clear a0 a1 a2 a3 a4 a5 a6
          obtain ⟨a0, a1, a2, a3, a4, a5, a6⟩ := HKEEP.out w15 M.out
          go_wp2_with fail
          refine (refNum (fun k => B ≤ k) b _ eps 2 2 w15 HE.out (fun k hk => by have := M.out.size; omega) rfl (.inr (.inl rfl)) t1 (by omega) (by omega) (by simp only [List.length_append, nb_length]; omega)).mono ?_
          rintro e w16 ⟨rfl, he2, m2⟩
          have HE2 := Lib.hid he2
          have M2 := Lib.hid (M.out.trans m2 (fun _ _ h => h))
          clear HE M he2 m2
          have HE := HE2
          have M := M2
          clear HE2 M2
          clear a0 a1 a2 a3 a4 a5 a6
          obtain ⟨a0, a1, a2, a3, a4, a5, a6⟩ := HKEEP.out w16 M.out
          go_wp2_with fail
          refine (refNum (fun k => B ≤ k) b _ wait 2 2 w16 HE.out (fun k hk => by have := M.out.size; omega) rfl (.inr (.inl rfl)) (by omega) (by omega) (by omega) (by simp only [List.length_append, nb_length]; omega)).mono ?_
          rintro e w17 ⟨rfl, he2, m2⟩
          have HE2 := Lib.hid he2
          have M2 := Lib.hid (M.out.trans m2 (fun _ _ h => h))
          clear HE M he2 m2
          have HE := HE2
          have M := M2
          clear HE2 M2
          clear a0 a1 a2 a3 a4 a5 a6
          obtain ⟨a0, a1, a2, a3, a4, a5, a6⟩ := HKEEP.out w17 M.out
          have hE := HE.out
          go_wp2_with fail
          refine (refDone (fun k => B ≤ k) b _ w17 hE).mono ?_
          rintro e w' ⟨v, rfl, hv, hw'⟩
          obtain rfl : w17 = w' := hw'.symm
          obtain ⟨ne, hne⟩ : ∃ n, (F5 ++ nb start 8 ++ nb eps 2 ++ nb wait 2).length = n := ⟨_, rfl⟩
          rw [hne] at hv
          clear hne
          have eb : F5 ++ nb start 8 ++ nb eps 2 ++ nb wait 2 = (encF ⟨deal, ps, ls, Z, start, eps, wait, dl⟩).1 := by
            rw [HEF.out, ← HF5.out, ← HF4.out, ← HF1.out]
            simp only [Pl.bytes, HNP.out, List.nil_append, List.append_assoc]
          have HFIN := Lib.hid (HPOST.out (.returned (.tuple #[v, .int .i64 0])) w17 ⟨v, by rw [HEF.out], by
            rw [← eb]
            exact hv.row.mono (fun k _ h => by have h : B ≤ k := h; show w.heap.size ≤ k; omega), HN.out _ M.out⟩)
          obtain ⟨pv, cv, rfl⟩ := hv.form
          clear hv hE eb
          go_wp2_with fail
          exact HFIN.out
end Go.Proofs.YtdfpmlfdmhlhcaaGreat

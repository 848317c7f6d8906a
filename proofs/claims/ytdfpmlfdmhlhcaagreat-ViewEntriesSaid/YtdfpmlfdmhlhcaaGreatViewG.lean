/- view.Accepts, cflref22.Accepts. (Printed by wip/tools/gen_viewg.py.) -/
import Derived.Test.YtdfpmlfdmhlhcaaGreatRefView
import Derived.Test.YtdfpmlfdmhlhcaaGreatFewPlan
namespace Go.Proofs.YtdfpmlfdmhlhcaaGreat
open Go.RowKit
/-- append to a byte slice of the program's own, by the lengths -/
theorem rows_append {S T : Nat → Prop} {w : World} (ty : TypeId) {v x : Value} {l m : List UInt8} {n k : Nat} (hn : l.length = n) (hk : m.length = k) (hv : IsVec S w 5 1 v n (bys l)) (hx : IsRow T w x (bys m)) (hb : n + k ≤ 140737488355328) :
    ∃ p c w', (Builtin.append_ #[26, 26] ty #[v, x]).run Tryz.prog w = .ok (.slice p (n + k) c) w' ∧ IsVec (fun j => S j ∨ w.heap.size ≤ j) w' 5 1 (.slice p (n + k) c) (n + k) (bys (l ++ m)) ∧ Mod S w w' := by
  subst hn; subst hk
  obtain ⟨v', w', h1, h2, h3⟩ := bytes_append ty hv hx hb
  obtain ⟨p, c, rfl⟩ := h2.form
  rw [List.length_append] at h1 h2
  exact ⟨p, c, w', h1, h2, h3⟩
def acceptF (P : Pl) (Z : List UInt8) : (Int × List UInt8) × Int := if (encF P).2 ≠ 0 ∨ (Z ≠ [] ∧ Z.length ≠ 32) then ((0, []), 2) else entF 1 (nb (encF P).1.length 4, 0) ((encF P).1 ++ (nb Z.length 2 ++ Z))
theorem encF_len (P : Pl) : (encF P).1.length ≤ 1500 := by
  unfold encF
  by_cases hc : checkN P 16 4 4 = 0
  · rw [if_pos hc]
    have hm := checkN_self hc
    obtain ⟨⟨-, -, h1, h2, h3, -⟩, -, h4⟩ := make_own hm
    have a1 := flat_length (fun x => nb x 1) 1 P.ps (fun x _ => by rw [nb_length]; exact Nat.le_refl _)
    have a2 := flat_length legE 81 P.ls (fun x hx => legE_length (legB_ok (List.all_eq_true.1 h3 x hx)).2.1)
    have h5 := h1.2.1
    show P.bytes.length ≤ 1500
    unfold Pl.bytes
    simp only [List.length_append, nb_length]
    omega
  · rw [if_neg hc]; simp
set_option maxRecDepth 100000 in
set_option maxHeartbeats 2000000 in
theorem viewAccepts (S : Nat → Prop) (v : Value) (P : Pl) (Z : List UInt8) (w : World) (hp : IsPl S w v P) (hf : P.few) (hh : P.hash.length ≤ 1000000000) (hz : Z.length ≤ 1000) :
    Calls Tryz.prog 8 #[v, .string ⟨Z.toArray⟩] w (EntOut w (acceptF P Z)) := by
  refine (?_ : ∀ Post : Ending → World → Prop, Hid (∀ e w', EntOut w (acceptF P Z) e w' → Post e w') → Calls Tryz.prog 8 #[v, .string ⟨Z.toArray⟩] w Post) _ (Lib.hid (fun _ _ h => h))
  intro Post HPOST
  have HENC := Lib.hid (fun W (m : Mod nil w W) => planEncode S v P W (hp.modNil m) hf hh)
  obtain ⟨⟨B, er⟩, hen⟩ : ∃ x, encF P = x := ⟨_, rfl⟩
  rw [hen] at HENC
  simp only at HENC
  have HBL : Hid (B.length ≤ 1500) := Lib.hid (by have := encF_len P; rw [hen] at this; exact this)
  have HACC : Hid (acceptF P Z = if er ≠ 0 ∨ (Z ≠ [] ∧ Z.length ≠ 32) then ((0, []), 2) else entF 1 (nb B.length 4, 0) (B ++ (nb Z.length 2 ++ Z))) := Lib.hid (by unfold acceptF; rw [hen])
  obtain ⟨p1, c1, p2, c2, p7, c7, rfl, -, -, -⟩ := id hp
  obtain ⟨deal, ps, ls, H, start, eps, wait, dl⟩ := P
  simp only at *
  obtain ⟨np, hnp⟩ : ∃ n, ps.length = n := ⟨_, rfl⟩
  obtain ⟨nl, hnl⟩ : ∃ n, ls.length = n := ⟨_, rfl⟩
  obtain ⟨nd, hnd⟩ : ∃ n, dl.length = n := ⟨_, rfl⟩
  rw [hnp, hnl, hnd] at HENC ⊢
  obtain ⟨w1, hw1⟩ : ∃ W, (w.alloc (.cells #[.int .i64 deal, .slice p1 np c1, .slice p2 nl c2, .string ⟨H.toArray⟩, .int .i64 start, .int .i64 eps, .int .i64 wait, .slice p7 nd c7] 25)).alloc (.cells #[.int .i64 0, .slice none 0 0] 32) = W := ⟨_, rfl⟩
  obtain ⟨g0, hg0⟩ : ∃ g, w.heap.size = g := ⟨_, rfl⟩
  obtain ⟨G, hG⟩ : ∃ g, g0 + 1 = g := ⟨_, rfl⟩
  have hm1 : Mod nil w w1 := by rw [← hw1]; exact ((Mod.refl _ _).alloc _).alloc _
  have hb0 : w1.heap[g0]? = some (.cells #[.int .i64 deal, .slice p1 np c1, .slice p2 nl c2, .string ⟨H.toArray⟩, .int .i64 start, .int .i64 eps, .int .i64 wait, .slice p7 nd c7] 25 (0, 0)) := by rw [← hw1, ← hg0]; exact heap_alloc_old (heap_alloc_new _ _)
  have HB1 : Hid (w1.heap[G]? = some (.cells #[.int .i64 0, .slice none 0 0] 32 (0, 0))) := Lib.hid (by
    rw [← hw1, ← hG, ← hg0]
    have := heap_alloc_new (w.alloc (.cells #[.int .i64 deal, .slice p1 np c1, .slice p2 nl c2, .string ⟨H.toArray⟩, .int .i64 start, .int .i64 eps, .int .i64 wait, .slice p7 nd c7] 25)) (.cells #[.int .i64 0, .slice none 0 0] 32)
    rw [World.size_alloc] at this
    exact this)
  have a0 := cell_of hb0 0
  have a1 := cell_of hb0 1
  have a2 := cell_of hb0 2
  have a3 := cell_of hb0 3
  have a4 := cell_of hb0 4
  have a5 := cell_of hb0 5
  have a6 := cell_of hb0 6
  have a7 := cell_of hb0 7
  simp only [List.getElem?_toArray, List.getElem?_cons_zero, List.getElem?_cons_succ] at a0 a1 a2 a3 a4 a5 a6 a7
  have HG : Hid (w.heap.size ≤ G) := Lib.hid (by omega)
  have HGL : Hid (G < w1.heap.size) := Lib.hid (heap_lt HB1.out)
  have HM1 := Lib.hid hm1
  have HZB := Lib.hid hz
  clear hen hp hnp hnl hnd hm1 hb0 hz hf hh
  go_enter Tryz.func8, Tryz.ntmps8
  go_upto_region 1 with (fail)
  (try rw [hg0])
  (try rw [hG])
  (try rw [hw1])
  clear hw1 hg0 hG
  go_wp2_with fail
  refine (HENC.out w1 HM1.out).mono ?_
  rintro e w2 ⟨vb, rfl, hvb, hm2⟩
  obtain ⟨pB, cB, rfl⟩ := hvb.form
  have HVB := Lib.hid hvb
  have HM2 := Lib.hid (HM1.out.thenNil hm2)
  have HB2 := Lib.hid (hm2.keep HB1.out)
  have hs2 := hm2.size
  clear hm2 hvb a0 a1 a2 a3 a4 a5 a6 a7
  by_cases he : er = 0
  · subst he
    rcases Z with _ | ⟨z0, Z⟩
    · have HACC2 := Lib.hid (HACC.out.trans (if_neg (by simp)))
      have HC5 : Hid (∀ W, ∃ c w', (convert 9 26 (.string ⟨#[]⟩)).run Tryz.prog W = .ok (.slice (some ⟨W.heap.size, 0, none⟩) 0 c) w' ∧ IsRow (fun k => W.heap.size ≤ k) w' (.slice (some ⟨W.heap.size, 0, none⟩) 0 c) (bys []) ∧ Mod nil W w') := Lib.hid (fun W => by have h := textRow W []; rw [show ([] : List UInt8).length = 0 from rfl] at h; exact h)
      have HFIT : Hid (encN [] 0 (B.length : Int) 4 = (nb (B.length : Int) 4, 0)) := Lib.hid (by have := HBL.out; unfold encN; rw [if_neg (by simp), if_pos ⟨by omega, by omega, by simp; omega⟩]; rfl)
      have HET : Hid (encT [] 0 [] = (nb 0 2 ++ [], 0)) := Lib.hid (by unfold encT; rw [if_neg (by simp), if_neg (by rw [show ([] : List UInt8).length = 0 from rfl]; omega), show ([] : List UInt8).length = 0 from rfl]; rfl)
      obtain ⟨nB, hnB⟩ : ∃ n, B.length = n := ⟨_, rfl⟩
      have HNB := Lib.hid hnB
      have hnb : nB ≤ 1500 := by have := HBL.out; omega
      rw [hnB] at HFIT ⊢
      clear hnB
      go_wp2_with fail
      refine (wireNewEnc w2).mono ?_
      rintro e w3 ⟨b1, rfl, he3, hm3⟩
      have HE1 : Hid (IsEncE (fun k => w2.heap.size ≤ k ∧ k < w3.heap.size) w3 b1 [] 0) := Lib.hid (he3.e.mono (fun k hk h => ⟨h, hk⟩))
      have hs3 := hm3.size
      have HM3 := Lib.hid (HM2.out.thenNil hm3)
      have HB3 := Lib.hid (hm3.keep HB2.out)
      have HV3 : Hid (IsVec (fun k => w1.heap.size ≤ k ∧ k < w2.heap.size) w3 5 1 (.slice pB B.length cB) B.length (bys B)) := Lib.hid ((HVB.out.mono (fun k hk h => ⟨h, hk⟩)).modNil hm3)
      clear he3 hm3
      go_wp2_with fail
      refine (wireNewEnc w3).mono ?_
      rintro e w4 ⟨b2, rfl, he4, hm4⟩
      have HE2 : Hid (IsEncE (fun k => w3.heap.size ≤ k ∧ k < w4.heap.size) w4 b2 [] 0) := Lib.hid (he4.e.mono (fun k hk h => ⟨h, hk⟩))
      have hs4 := hm4.size
      have HE14 : Hid (IsEncE (fun k => (w2.heap.size ≤ k ∧ k < w3.heap.size) ∨ w4.heap.size ≤ k) w4 b1 [] 0) := Lib.hid ((HE1.out.modNil hm4).mono (fun k _ h => .inl h))
      have HM4 := Lib.hid (HM3.out.thenNil hm4)
      have HB4 := Lib.hid (hm4.keep HB3.out)
      have HV4 := Lib.hid (HV3.out.modNil hm4)
      clear he4 hm4
      go_wp2_with fail
      refine (encNumE _ b1 [] 0 (nB : Int) 4 4 w4 HE14.out (fun k hk => .inr hk) rfl (by omega) (by omega) (by simp)).mono ?_
      rw [HFIT.out]
      rintro e w5 ⟨rfl, he5, hm5⟩
      simp only at he5
      have HE15 : Hid (IsEncE (fun k => ((w2.heap.size ≤ k ∧ k < w3.heap.size) ∨ w4.heap.size ≤ k) ∧ k < w5.heap.size) w5 b1 (nb (nB : Int) 4) 0) := Lib.hid (he5.mono (fun k hk h => ⟨h, hk⟩))
      have hs5 := hm5.size
      have HE25 := Lib.hid (HE2.out.mod hm5 (fun k _ h h2 => by omega))
      have HM5 : Hid (Mod nil w w5) := Lib.hid (HM4.out.new hm5 (fun k hk => by have := HM1.out.size; omega))
      have HB5 := Lib.hid ((hm5.block G (heap_lt HB4.out) (fun h => by have := HGL.out; omega)).trans HB4.out)
      have HV5 := Lib.hid (HV4.out.mod hm5 (fun k _ h h2 => by omega))
      clear he5 hm5
      obtain ⟨cz, w6, hconv, hrz, hm6⟩ := HC5.out w5
      obtain ⟨g6, hg6⟩ : ∃ g, w5.heap.size = g := ⟨_, rfl⟩
      rw [hg6] at hconv hrz
      have hs6 := hm6.size
      have HRZ : Hid (IsRow (fun k => w5.heap.size ≤ k ∧ k < w6.heap.size) w6 (.slice (some ⟨g6, 0, none⟩) 0 cz) (bys [])) := Lib.hid (hrz.mono (fun k hk h => ⟨by omega, hk⟩))
      have HE16 := Lib.hid (HE15.out.modNil hm6)
      have HE26 : Hid (IsEncE (fun k => (w3.heap.size ≤ k ∧ k < w4.heap.size) ∨ w6.heap.size ≤ k) w6 b2 [] 0) := Lib.hid ((HE25.out.modNil hm6).mono (fun k _ h => .inl h))
      have HM6 := Lib.hid (HM5.out.thenNil hm6)
      have HB6 := Lib.hid (hm6.keep HB5.out)
      have HV6 := Lib.hid (HV5.out.modNil hm6)
      clear hrz hm6 hg6
      go_wp2_with fail
      clear hconv
      refine (encBytesE _ _ b2 0 cz _ [] 0 [] w6 HE26.out (fun k hk => .inr hk) HRZ.out (fun k _ h h2 => by omega) (by simp)).mono ?_
      rw [HET.out]
      rintro e w7 ⟨rfl, he7, hm7⟩
      simp only at he7
      have HE27 := Lib.hid he7
      have hs7 := hm7.size
      have HE17 := Lib.hid (HE16.out.mod hm7 (fun k _ h h2 => by omega))
      have HM7 : Hid (Mod nil w w7) := Lib.hid (HM6.out.new hm7 (fun k hk => by have := HM1.out.size; omega))
      have HB7 := Lib.hid ((hm7.block G (heap_lt HB6.out) (fun h => by have := HGL.out; omega)).trans HB6.out)
      have HV7 := Lib.hid (HV6.out.mod hm7 (fun k _ h h2 => by omega))
      clear he7 hm7
      go_wp2_with fail
      refine (encDoneE _ b2 _ 0 w7 HE27.out (by rw [List.length_append, nb_length, show ([] : List UInt8).length = 0 from rfl]; omega)).mono ?_
      rw [if_pos rfl]
      obtain ⟨X, hX⟩ : ∃ X, nb 0 2 ++ [] = X := ⟨_, rfl⟩
      rw [hX]
      have HX := Lib.hid hX
      have hXl : X.length ≤ 40 := by rw [← hX, List.length_append, nb_length, show ([] : List UInt8).length = 0 from rfl]; omega
      obtain ⟨nX, hnX⟩ : ∃ n, X.length = n := ⟨_, rfl⟩
      rw [hnX]
      rintro e w8 ⟨v8, rfl, hv8, hm8⟩
      obtain ⟨p8, c8, rfl⟩ := hv8.form
      have hs8 := hm8.size
      obtain ⟨p9, c9, w9, hrun, hv9, hm9⟩ := rows_append (n := B.length) (k := nX) 26 rfl hnX (HV7.out.modNil hm8) hv8.row (by have := HBL.out; omega)
      rw [HNB.out] at hrun hv9
      have hs9 := hm9.size
      have HE19 := Lib.hid ((HE17.out.modNil hm8).mod hm9 (fun k _ h h2 => by omega))
      have HM9 : Hid (Mod nil w w9) := Lib.hid ((HM7.out.thenNil hm8).new hm9 (fun k hk => by have := HM1.out.size; omega))
      have HB9 := Lib.hid ((hm9.block G (heap_lt (hm8.keep HB7.out)) (fun h => by have := HGL.out; omega)).trans (hm8.keep HB7.out))
      have HV9 := Lib.hid hv9
      have HRUN := Lib.hid hrun
      have hXb : nX ≤ 40 := by omega
      clear hX hnX hv8 hm8 hrun hv9 hm9
      go_wp2_with (first | (at_builtin; refine wpList_append_run rfl _ _ _ _ rfl rfl rfl HRUN.out ?_))
      rw [HNB.out, show ((([] : List UInt8).length : Nat) : Int) = 0 from by rw [show ([] : List UInt8).length = 0 from rfl]; rfl, HX.out] at HACC2
      rw [HACC2.out] at HPOST
      refine (viewEntry _ _ 1 0 b1 _ c9 p9 (nb (nB : Int) 4) (B ++ X) w9 HE19.out HV9.out.row (by rw [nb_length]; omega) (by omega)).mono ?_
      rintro e w10 ⟨p, n, c, rfl, hrow, hmn⟩
      obtain ⟨⟨⟨xk, xb⟩, xe⟩, hx⟩ : ∃ y, entF 1 (nb (nB : Int) 4, 0) (B ++ X) = y := ⟨_, rfl⟩
      rw [hx] at hrow HPOST ⊢
      simp only at hrow ⊢
      have HBn := Lib.hid (hmn.keep HB9.out)
      have hle := HM1.out.size
      have hlt := HGL.out
      have HE := Lib.hid (HPOST.out _ _ (ent_fin (G := G) (B := w1.heap.size) HG.out hlt hle (hrow.mono (fun k _ h => by omega)) (HM9.out.thenNil hmn)))
      simp only at HE
      clear hrow hmn hx hle hlt
      go_wp2_with (refine wpList_store_row rfl _ _ _ rfl G #[.int .i64 xk, .slice p n c] rfl rfl 32 _ HBn.out info_ent rfl (by simp [Value.oneCell']) ?_)
      refine bodyPost_ret (results_cell_row2 rfl _ _ G 32 #[.int .i64 xk, .slice p n c] (0, 0) rfl (setRow_heap w10 G _ #[.int .i64 xk, .slice p n c] _ _ HBn.out) Tryz.underlying32 info_ent) rfl ?_
      exact HE.out
    · obtain ⟨m, hm⟩ : ∃ m, Z.length = m := ⟨_, rfl⟩
      by_cases h32 : m = 31
      · subst h32
        have HACC2 := Lib.hid (HACC.out.trans (if_neg (by simp [hm])))
        have HLZ : Hid ((z0 :: Z).length = 32) := Lib.hid (by simp [hm])
        have HC5 : Hid (∀ W, ∃ c w', (convert 9 26 (.string ⟨(z0 :: Z).toArray⟩)).run Tryz.prog W = .ok (.slice (some ⟨W.heap.size, 0, none⟩) 32 c) w' ∧ IsRow (fun k => W.heap.size ≤ k) w' (.slice (some ⟨W.heap.size, 0, none⟩) 32 c) (bys (z0 :: Z)) ∧ Mod nil W w') := Lib.hid (fun W => by have h := textRow W (z0 :: Z); rw [show ((z0 :: Z) : List UInt8).length = 32 from HLZ.out] at h; exact h)
        have HFIT : Hid (encN [] 0 (B.length : Int) 4 = (nb (B.length : Int) 4, 0)) := Lib.hid (by have := HBL.out; unfold encN; rw [if_neg (by simp), if_pos ⟨by omega, by omega, by simp; omega⟩]; rfl)
        have HET : Hid (encT [] 0 (z0 :: Z) = (nb 32 2 ++ (z0 :: Z), 0)) := Lib.hid (by unfold encT; rw [if_neg (by simp), if_neg (by rw [show ((z0 :: Z) : List UInt8).length = 32 from HLZ.out]; omega), show ((z0 :: Z) : List UInt8).length = 32 from HLZ.out]; rfl)
        obtain ⟨nB, hnB⟩ : ∃ n, B.length = n := ⟨_, rfl⟩
        have HNB := Lib.hid hnB
        have hnb : nB ≤ 1500 := by have := HBL.out; omega
        rw [hnB] at HFIT ⊢
        clear hnB
        go_wp2_with fail
        refine (wireNewEnc w2).mono ?_
        rintro e w3 ⟨b1, rfl, he3, hm3⟩
        have HE1 : Hid (IsEncE (fun k => w2.heap.size ≤ k ∧ k < w3.heap.size) w3 b1 [] 0) := Lib.hid (he3.e.mono (fun k hk h => ⟨h, hk⟩))
        have hs3 := hm3.size
        have HM3 := Lib.hid (HM2.out.thenNil hm3)
        have HB3 := Lib.hid (hm3.keep HB2.out)
        have HV3 : Hid (IsVec (fun k => w1.heap.size ≤ k ∧ k < w2.heap.size) w3 5 1 (.slice pB B.length cB) B.length (bys B)) := Lib.hid ((HVB.out.mono (fun k hk h => ⟨h, hk⟩)).modNil hm3)
        clear he3 hm3
        go_wp2_with fail
        refine (wireNewEnc w3).mono ?_
        rintro e w4 ⟨b2, rfl, he4, hm4⟩
        have HE2 : Hid (IsEncE (fun k => w3.heap.size ≤ k ∧ k < w4.heap.size) w4 b2 [] 0) := Lib.hid (he4.e.mono (fun k hk h => ⟨h, hk⟩))
        have hs4 := hm4.size
        have HE14 : Hid (IsEncE (fun k => (w2.heap.size ≤ k ∧ k < w3.heap.size) ∨ w4.heap.size ≤ k) w4 b1 [] 0) := Lib.hid ((HE1.out.modNil hm4).mono (fun k _ h => .inl h))
        have HM4 := Lib.hid (HM3.out.thenNil hm4)
        have HB4 := Lib.hid (hm4.keep HB3.out)
        have HV4 := Lib.hid (HV3.out.modNil hm4)
        clear he4 hm4
        go_wp2_with fail
        refine (encNumE _ b1 [] 0 (nB : Int) 4 4 w4 HE14.out (fun k hk => .inr hk) rfl (by omega) (by omega) (by simp)).mono ?_
        rw [HFIT.out]
        rintro e w5 ⟨rfl, he5, hm5⟩
        simp only at he5
        have HE15 : Hid (IsEncE (fun k => ((w2.heap.size ≤ k ∧ k < w3.heap.size) ∨ w4.heap.size ≤ k) ∧ k < w5.heap.size) w5 b1 (nb (nB : Int) 4) 0) := Lib.hid (he5.mono (fun k hk h => ⟨h, hk⟩))
        have hs5 := hm5.size
        have HE25 := Lib.hid (HE2.out.mod hm5 (fun k _ h h2 => by omega))
        have HM5 : Hid (Mod nil w w5) := Lib.hid (HM4.out.new hm5 (fun k hk => by have := HM1.out.size; omega))
        have HB5 := Lib.hid ((hm5.block G (heap_lt HB4.out) (fun h => by have := HGL.out; omega)).trans HB4.out)
        have HV5 := Lib.hid (HV4.out.mod hm5 (fun k _ h h2 => by omega))
        clear he5 hm5
        obtain ⟨cz, w6, hconv, hrz, hm6⟩ := HC5.out w5
        obtain ⟨g6, hg6⟩ : ∃ g, w5.heap.size = g := ⟨_, rfl⟩
        rw [hg6] at hconv hrz
        have hs6 := hm6.size
        have HRZ : Hid (IsRow (fun k => w5.heap.size ≤ k ∧ k < w6.heap.size) w6 (.slice (some ⟨g6, 0, none⟩) 32 cz) (bys (z0 :: Z))) := Lib.hid (hrz.mono (fun k hk h => ⟨by omega, hk⟩))
        have HE16 := Lib.hid (HE15.out.modNil hm6)
        have HE26 : Hid (IsEncE (fun k => (w3.heap.size ≤ k ∧ k < w4.heap.size) ∨ w6.heap.size ≤ k) w6 b2 [] 0) := Lib.hid ((HE25.out.modNil hm6).mono (fun k _ h => .inl h))
        have HM6 := Lib.hid (HM5.out.thenNil hm6)
        have HB6 := Lib.hid (hm6.keep HB5.out)
        have HV6 := Lib.hid (HV5.out.modNil hm6)
        clear hrz hm6 hg6
        go_wp2_with fail
        clear hconv
        refine (encBytesE _ _ b2 32 cz _ [] 0 (z0 :: Z) w6 HE26.out (fun k hk => .inr hk) HRZ.out (fun k _ h h2 => by omega) (by simp)).mono ?_
        rw [HET.out]
        rintro e w7 ⟨rfl, he7, hm7⟩
        simp only at he7
        have HE27 := Lib.hid he7
        have hs7 := hm7.size
        have HE17 := Lib.hid (HE16.out.mod hm7 (fun k _ h h2 => by omega))
        have HM7 : Hid (Mod nil w w7) := Lib.hid (HM6.out.new hm7 (fun k hk => by have := HM1.out.size; omega))
        have HB7 := Lib.hid ((hm7.block G (heap_lt HB6.out) (fun h => by have := HGL.out; omega)).trans HB6.out)
        have HV7 := Lib.hid (HV6.out.mod hm7 (fun k _ h h2 => by omega))
        clear he7 hm7
        go_wp2_with fail
        refine (encDoneE _ b2 _ 0 w7 HE27.out (by rw [List.length_append, nb_length, show ((z0 :: Z) : List UInt8).length = 32 from HLZ.out]; omega)).mono ?_
        rw [if_pos rfl]
        obtain ⟨X, hX⟩ : ∃ X, nb 32 2 ++ (z0 :: Z) = X := ⟨_, rfl⟩
        rw [hX]
        have HX := Lib.hid hX
        have hXl : X.length ≤ 40 := by rw [← hX, List.length_append, nb_length, show ((z0 :: Z) : List UInt8).length = 32 from HLZ.out]; omega
        obtain ⟨nX, hnX⟩ : ∃ n, X.length = n := ⟨_, rfl⟩
        rw [hnX]
        rintro e w8 ⟨v8, rfl, hv8, hm8⟩
        obtain ⟨p8, c8, rfl⟩ := hv8.form
        have hs8 := hm8.size
        obtain ⟨p9, c9, w9, hrun, hv9, hm9⟩ := rows_append (n := B.length) (k := nX) 26 rfl hnX (HV7.out.modNil hm8) hv8.row (by have := HBL.out; omega)
        rw [HNB.out] at hrun hv9
        have hs9 := hm9.size
        have HE19 := Lib.hid ((HE17.out.modNil hm8).mod hm9 (fun k _ h h2 => by omega))
        have HM9 : Hid (Mod nil w w9) := Lib.hid ((HM7.out.thenNil hm8).new hm9 (fun k hk => by have := HM1.out.size; omega))
        have HB9 := Lib.hid ((hm9.block G (heap_lt (hm8.keep HB7.out)) (fun h => by have := HGL.out; omega)).trans (hm8.keep HB7.out))
        have HV9 := Lib.hid hv9
        have HRUN := Lib.hid hrun
        have hXb : nX ≤ 40 := by omega
        clear hX hnX hv8 hm8 hrun hv9 hm9
        go_wp2_with (first | (at_builtin; refine wpList_append_run rfl _ _ _ _ rfl rfl rfl HRUN.out ?_))
        rw [HNB.out, show ((((z0 :: Z) : List UInt8).length : Nat) : Int) = 32 from by rw [show ((z0 :: Z) : List UInt8).length = 32 from HLZ.out]; rfl, HX.out] at HACC2
        rw [HACC2.out] at HPOST
        refine (viewEntry _ _ 1 0 b1 _ c9 p9 (nb (nB : Int) 4) (B ++ X) w9 HE19.out HV9.out.row (by rw [nb_length]; omega) (by omega)).mono ?_
        rintro e w10 ⟨p, n, c, rfl, hrow, hmn⟩
        obtain ⟨⟨⟨xk, xb⟩, xe⟩, hx⟩ : ∃ y, entF 1 (nb (nB : Int) 4, 0) (B ++ X) = y := ⟨_, rfl⟩
        rw [hx] at hrow HPOST ⊢
        simp only at hrow ⊢
        have HBn := Lib.hid (hmn.keep HB9.out)
        have hle := HM1.out.size
        have hlt := HGL.out
        have HE := Lib.hid (HPOST.out _ _ (ent_fin (G := G) (B := w1.heap.size) HG.out hlt hle (hrow.mono (fun k _ h => by omega)) (HM9.out.thenNil hmn)))
        simp only at HE
        clear hrow hmn hx hle hlt
        go_wp2_with (refine wpList_store_row rfl _ _ _ rfl G #[.int .i64 xk, .slice p n c] rfl rfl 32 _ HBn.out info_ent rfl (by simp [Value.oneCell']) ?_)
        refine bodyPost_ret (results_cell_row2 rfl _ _ G 32 #[.int .i64 xk, .slice p n c] (0, 0) rfl (setRow_heap w10 G _ #[.int .i64 xk, .slice p n c] _ _ HBn.out) Tryz.underlying32 info_ent) rfl ?_
        exact HE.out
      · have HACC2 := Lib.hid (HACC.out.trans (if_pos (.inr ⟨by simp, by simp [hm]; omega⟩)))
        have h32' : ¬ ((m : Int) + 1 = 32) := by omega
        have h32'' : (((m : Int) + 1) != 32) = true := by rw [bne_iff_ne]; omega
        have HE := Lib.hid (HPOST.out _ _ (ent_zero (G := G) HG.out HACC2.out HM2.out))
        clear h32
        go_wp2_with (refine wpList_store_row rfl _ _ _ rfl G #[.int .i64 0, .slice none 0 0] rfl rfl 32 _ HB2.out info_ent rfl (by simp [Value.oneCell']) ?_)
        refine bodyPost_ret (results_cell_row2 rfl _ _ G 32 #[.int .i64 0, .slice none 0 0] (0, 0) rfl (setRow_heap w2 G _ #[.int .i64 0, .slice none 0 0] _ _ HB2.out) Tryz.underlying32 info_ent) rfl ?_
        exact HE.out
  · have HE := Lib.hid (HPOST.out _ _ (ent_zero (G := G) HG.out (HACC.out.trans (if_pos (.inl he))) HM2.out))
    have hne : (er != 0) = true := by simpa using he
    clear he
    go_wp2_with (refine wpList_store_row rfl _ _ _ rfl G #[.int .i64 0, .slice none 0 0] rfl rfl 32 _ HB2.out info_ent rfl (by simp [Value.oneCell']) ?_)
    refine bodyPost_ret (results_cell_row2 rfl _ _ G 32 #[.int .i64 0, .slice none 0 0] (0, 0) rfl (setRow_heap w2 G _ #[.int .i64 0, .slice none 0 0] _ _ HB2.out) Tryz.underlying32 info_ent) rfl ?_
    exact HE.out
set_option maxRecDepth 100000 in
set_option maxHeartbeats 2000000 in
theorem refAccepts (S : Nat → Prop) (v : Value) (P : Pl) (Z : List UInt8) (w : World) (hp : IsPl S w v P) (hc : PlCap v P) (hf : P.few) (hh : P.hash.length ≤ 1000000000) (hz : Z.length ≤ 1000) :
    Calls Tryz.prog 9 #[v, .string ⟨Z.toArray⟩] w (EntOut w (acceptF P Z)) := by
  refine (?_ : ∀ Post : Ending → World → Prop, Hid (∀ e w', EntOut w (acceptF P Z) e w' → Post e w') → Calls Tryz.prog 9 #[v, .string ⟨Z.toArray⟩] w Post) _ (Lib.hid (fun _ _ h => h))
  intro Post HPOST
  have HENC := Lib.hid (fun W (m : Mod nil w W) => refEncode S v P W (hp.modNil m) hc hf hh)
  obtain ⟨⟨B, er⟩, hen⟩ : ∃ x, encF P = x := ⟨_, rfl⟩
  rw [hen] at HENC
  simp only at HENC
  have HBL : Hid (B.length ≤ 1500) := Lib.hid (by have := encF_len P; rw [hen] at this; exact this)
  have HACC : Hid (acceptF P Z = if er ≠ 0 ∨ (Z ≠ [] ∧ Z.length ≠ 32) then ((0, []), 2) else entF 1 (nb B.length 4, 0) (B ++ (nb Z.length 2 ++ Z))) := Lib.hid (by unfold acceptF; rw [hen])
  obtain ⟨p1, c1, p2, c2, p7, c7, rfl, -, -, -⟩ := id hp
  obtain ⟨deal, ps, ls, H, start, eps, wait, dl⟩ := P
  simp only at *
  obtain ⟨np, hnp⟩ : ∃ n, ps.length = n := ⟨_, rfl⟩
  obtain ⟨nl, hnl⟩ : ∃ n, ls.length = n := ⟨_, rfl⟩
  obtain ⟨nd, hnd⟩ : ∃ n, dl.length = n := ⟨_, rfl⟩
  rw [hnp, hnl, hnd] at HENC ⊢
  obtain ⟨w1, hw1⟩ : ∃ W, (w.alloc (.cells #[.int .i64 deal, .slice p1 np c1, .slice p2 nl c2, .string ⟨H.toArray⟩, .int .i64 start, .int .i64 eps, .int .i64 wait, .slice p7 nd c7] 25)).alloc (.cells #[.int .i64 0, .slice none 0 0] 32) = W := ⟨_, rfl⟩
  obtain ⟨g0, hg0⟩ : ∃ g, w.heap.size = g := ⟨_, rfl⟩
  obtain ⟨G, hG⟩ : ∃ g, g0 + 1 = g := ⟨_, rfl⟩
  have hm1 : Mod nil w w1 := by rw [← hw1]; exact ((Mod.refl _ _).alloc _).alloc _
  have hb0 : w1.heap[g0]? = some (.cells #[.int .i64 deal, .slice p1 np c1, .slice p2 nl c2, .string ⟨H.toArray⟩, .int .i64 start, .int .i64 eps, .int .i64 wait, .slice p7 nd c7] 25 (0, 0)) := by rw [← hw1, ← hg0]; exact heap_alloc_old (heap_alloc_new _ _)
  have HB1 : Hid (w1.heap[G]? = some (.cells #[.int .i64 0, .slice none 0 0] 32 (0, 0))) := Lib.hid (by
    rw [← hw1, ← hG, ← hg0]
    have := heap_alloc_new (w.alloc (.cells #[.int .i64 deal, .slice p1 np c1, .slice p2 nl c2, .string ⟨H.toArray⟩, .int .i64 start, .int .i64 eps, .int .i64 wait, .slice p7 nd c7] 25)) (.cells #[.int .i64 0, .slice none 0 0] 32)
    rw [World.size_alloc] at this
    exact this)
  have a0 := cell_of hb0 0
  have a1 := cell_of hb0 1
  have a2 := cell_of hb0 2
  have a3 := cell_of hb0 3
  have a4 := cell_of hb0 4
  have a5 := cell_of hb0 5
  have a6 := cell_of hb0 6
  have a7 := cell_of hb0 7
  simp only [List.getElem?_toArray, List.getElem?_cons_zero, List.getElem?_cons_succ] at a0 a1 a2 a3 a4 a5 a6 a7
  have HG : Hid (w.heap.size ≤ G) := Lib.hid (by omega)
  have HGL : Hid (G < w1.heap.size) := Lib.hid (heap_lt HB1.out)
  have HM1 := Lib.hid hm1
  have HZB := Lib.hid hz
  clear hen hp hc hnp hnl hnd hm1 hb0 hz hf hh
  go_enter Tryz.func9, Tryz.ntmps9
  go_upto_region 1 with (fail)
  (try rw [hg0])
  (try rw [hG])
  (try rw [hw1])
  clear hw1 hg0 hG
  go_wp2_with fail
  refine (HENC.out w1 HM1.out).mono ?_
  rintro e w2 ⟨vb, rfl, hvb, hm2⟩
  obtain ⟨pB, cB, rfl, -⟩ := id hvb
  rw [bys_length] at *
  have HVB := Lib.hid hvb
  have HM2 := Lib.hid (HM1.out.thenNil hm2)
  have HB2 := Lib.hid (hm2.keep HB1.out)
  have hs2 := hm2.size
  clear hm2 hvb a0 a1 a2 a3 a4 a5 a6 a7
  by_cases he : er = 0
  · subst he
    rcases Z with _ | ⟨z0, Z⟩
    · have HACC2 := Lib.hid (HACC.out.trans (if_neg (by simp)))
      have HC5 : Hid (∀ W, ∃ c w', (convert 9 26 (.string ⟨#[]⟩)).run Tryz.prog W = .ok (.slice (some ⟨W.heap.size, 0, none⟩) 0 c) w' ∧ IsRow (fun k => W.heap.size ≤ k) w' (.slice (some ⟨W.heap.size, 0, none⟩) 0 c) (bys []) ∧ Mod nil W w') := Lib.hid (fun W => by have h := textRow W []; rw [show ([] : List UInt8).length = 0 from rfl] at h; exact h)
      have HFIT : Hid (rencN [] 0 (B.length : Int) 4 = (nb (B.length : Int) 4, 0)) := Lib.hid (by have := HBL.out; unfold rencN; rw [if_pos ⟨by omega, by omega, by simp; omega⟩]; rfl)
      have HET : Hid (∀ l, rencT l 0 [] = (l ++ nb 0 2 ++ [], 0)) := Lib.hid (fun l => by unfold rencT; rw [if_neg (by rw [show ([] : List UInt8).length = 0 from rfl]; omega), show ([] : List UInt8).length = 0 from rfl]; rfl)
      obtain ⟨nB, hnB⟩ : ∃ n, B.length = n := ⟨_, rfl⟩
      have HNB := Lib.hid hnB
      have hnb : nB ≤ 1500 := by have := HBL.out; omega
      rw [hnB] at HFIT ⊢
      obtain ⟨b, hb⟩ : ∃ g, w2.heap.size = g := ⟨_, rfl⟩
      obtain ⟨w3, hw3⟩ : ∃ W, w2.alloc (.cells #[.slice none 0 0, .int .i64 0] 84) = W := ⟨_, rfl⟩
      have hm3 : Mod nil w2 w3 := by rw [← hw3]; exact (Mod.refl _ _).alloc _
      have hb3 : w3.heap[b]? = some (.cells #[.slice none 0 0, .int .i64 0] 84 (0, 0)) := by rw [← hw3, ← hb]; exact heap_alloc_new _ _
      have HE3 : Hid (IsREncE (fun k => w2.heap.size ≤ k) w3 b [] 0) := Lib.hid ⟨by omega, none, 0, hb3, IsVec.nil _ _ _ _⟩
      have hs3 := hm3.size
      have HM3 := Lib.hid (HM2.out.thenNil hm3)
      have HB3 := Lib.hid (hm3.keep HB2.out)
      have HV3 : Hid (IsRow (fun k => w1.heap.size ≤ k ∧ k < w2.heap.size) w3 (.slice pB nB cB) (bys B)) := Lib.hid (by have h := (HVB.out.mono (T := fun k => w1.heap.size ≤ k ∧ k < w2.heap.size) (fun k hk h => ⟨h, hk⟩)).modNil hm3; rw [hnB] at h; exact h)
      clear hm3 hb3 hnB
      go_wp2_with fail
      clear hw3 hb
      refine (refNumE 0 _ b [] (nB : Int) 4 4 w3 HE3.out (fun k hk => by omega) rfl (.inr (.inr (.inr rfl))) (by simp)).mono ?_
      rw [HFIT.out]
      rintro e w4 ⟨rfl, he, hm⟩
      simp only at he
      have HV4 := Lib.hid (HV3.out.mod hm (fun k _ h h2 => by omega))
      have HE4 := Lib.hid he
      have HB4 := Lib.hid ((hm.block G (heap_lt HB3.out) (fun h => by have := HGL.out; omega)).trans HB3.out)
      have HM4 : Hid (Mod nil w w4) := Lib.hid (HM3.out.new hm (fun k hk => by have := HM1.out.size; omega))
      have hs4 := hm.size
      clear he hm
      go_wp2_with fail
      refine (refRawE 0 _ _ b (nb (nB : Int) 4) B _ w4 HE4.out (fun k hk => by omega) HV4.out (by rw [nb_length, HNB.out]; omega)).mono ?_
      rintro e w5 ⟨rfl, he, hm⟩
      have HE5 := Lib.hid he
      have HB5 := Lib.hid ((hm.block G (heap_lt HB4.out) (fun h => by have := HGL.out; omega)).trans HB4.out)
      have HM5 : Hid (Mod nil w w5) := Lib.hid (HM4.out.new hm (fun k hk => by have := HM1.out.size; omega))
      have hs5 := hm.size
      clear he hm
      obtain ⟨cz, w6, hconv, hrz, hm6⟩ := HC5.out w5
      obtain ⟨g6, hg6⟩ : ∃ g, w5.heap.size = g := ⟨_, rfl⟩
      rw [hg6] at hconv hrz
      have hs6 := hm6.size
      have HRZ : Hid (IsRow (fun k => w5.heap.size ≤ k ∧ k < w6.heap.size) w6 (.slice (some ⟨g6, 0, none⟩) 0 cz) (bys [])) := Lib.hid (hrz.mono (fun k hk h => ⟨by omega, hk⟩))
      have HE6 : Hid (IsREncE (fun k => (w2.heap.size ≤ k ∧ k < w5.heap.size) ∨ w6.heap.size ≤ k) w6 b (nb (nB : Int) 4 ++ B) 0) := Lib.hid ((HE5.out.mono (T := fun k => (w2.heap.size ≤ k ∧ k < w5.heap.size) ∨ w6.heap.size ≤ k) (fun k hk h => .inl ⟨h, hk⟩)).modNil hm6)
      have HM6 := Lib.hid (HM5.out.thenNil hm6)
      have HB6 := Lib.hid (hm6.keep HB5.out)
      clear hrz hm6 hg6
      go_wp2_with fail
      clear hconv
      refine (refBytesE 0 _ _ b 0 cz _ (nb (nB : Int) 4 ++ B) [] w6 HE6.out (fun k hk => .inr hk) HRZ.out (fun k _ h h2 => by omega) (by rw [List.length_append, nb_length, HNB.out]; omega)).mono ?_
      rw [HET.out]
      rintro e w7 ⟨rfl, he, hm⟩
      simp only at he
      have HE7 := Lib.hid he
      have HB7 := Lib.hid ((hm.block G (heap_lt HB6.out) (fun h => by have := HGL.out; omega)).trans HB6.out)
      have HM7 : Hid (Mod nil w w7) := Lib.hid (HM6.out.new hm (fun k hk => by have := HM1.out.size; omega))
      have hs7 := hm.size
      clear he hm
      rw [HNB.out, show ((([] : List UInt8).length : Nat) : Int) = 0 from by rw [show ([] : List UInt8).length = 0 from rfl]; rfl, ← entF_app, show nb (nB : Int) 4 ++ (B ++ (nb 0 2 ++ [])) = nb (nB : Int) 4 ++ B ++ nb 0 2 ++ [] from by simp] at HACC2
      rw [HACC2.out] at HPOST
      have hln : (nb (nB : Int) 4 ++ B ++ nb 0 2 ++ []).length ≤ 1000000 := by rw [List.length_append, List.length_append, List.length_append, nb_length, nb_length, HNB.out, show ([] : List UInt8).length = 0 from rfl]; omega
      obtain ⟨X, hX⟩ : ∃ X, nb (nB : Int) 4 ++ B ++ nb 0 2 ++ [] = X := ⟨_, rfl⟩
      rw [hX] at HE7 HPOST hln
      have hs12 := HM2.out.size
      clear hX
      go_wp2_with fail
      refine (refEntry _ 1 0 b X w7 HE7.out hln).mono ?_
      rintro e w8 ⟨p, n, c, rfl, hrow, hmn⟩
      obtain ⟨⟨⟨xk, xb⟩, xe⟩, hx⟩ : ∃ y, entF 1 (X, 0) [] = y := ⟨_, rfl⟩
      rw [hx] at hrow HPOST ⊢
      simp only at hrow ⊢
      have HBn := Lib.hid (hmn.keep HB7.out)
      have hle := HM1.out.size
      have hlt := HGL.out
      have HE := Lib.hid (HPOST.out _ _ (ent_fin (G := G) (B := w1.heap.size) HG.out hlt hle (hrow.mono (fun k _ h => by omega)) (HM7.out.thenNil hmn)))
      simp only at HE
      clear hrow hmn hx hle hlt
      go_wp2_with (refine wpList_store_row rfl _ _ _ rfl G #[.int .i64 xk, .slice p n c] rfl rfl 32 _ HBn.out info_ent rfl (by simp [Value.oneCell']) ?_)
      refine bodyPost_ret (results_cell_row2 rfl _ _ G 32 #[.int .i64 xk, .slice p n c] (0, 0) rfl (setRow_heap w8 G _ #[.int .i64 xk, .slice p n c] _ _ HBn.out) Tryz.underlying32 info_ent) rfl ?_
      exact HE.out
    · obtain ⟨m, hm⟩ : ∃ m, Z.length = m := ⟨_, rfl⟩
      by_cases h32 : m = 31
      · subst h32
        have HACC2 := Lib.hid (HACC.out.trans (if_neg (by simp [hm])))
        have HLZ : Hid ((z0 :: Z).length = 32) := Lib.hid (by simp [hm])
        have HC5 : Hid (∀ W, ∃ c w', (convert 9 26 (.string ⟨(z0 :: Z).toArray⟩)).run Tryz.prog W = .ok (.slice (some ⟨W.heap.size, 0, none⟩) 32 c) w' ∧ IsRow (fun k => W.heap.size ≤ k) w' (.slice (some ⟨W.heap.size, 0, none⟩) 32 c) (bys (z0 :: Z)) ∧ Mod nil W w') := Lib.hid (fun W => by have h := textRow W (z0 :: Z); rw [show ((z0 :: Z) : List UInt8).length = 32 from HLZ.out] at h; exact h)
        have HFIT : Hid (rencN [] 0 (B.length : Int) 4 = (nb (B.length : Int) 4, 0)) := Lib.hid (by have := HBL.out; unfold rencN; rw [if_pos ⟨by omega, by omega, by simp; omega⟩]; rfl)
        have HET : Hid (∀ l, rencT l 0 (z0 :: Z) = (l ++ nb 32 2 ++ (z0 :: Z), 0)) := Lib.hid (fun l => by unfold rencT; rw [if_neg (by rw [show ((z0 :: Z) : List UInt8).length = 32 from HLZ.out]; omega), show ((z0 :: Z) : List UInt8).length = 32 from HLZ.out]; rfl)
        obtain ⟨nB, hnB⟩ : ∃ n, B.length = n := ⟨_, rfl⟩
        have HNB := Lib.hid hnB
        have hnb : nB ≤ 1500 := by have := HBL.out; omega
        rw [hnB] at HFIT ⊢
        obtain ⟨b, hb⟩ : ∃ g, w2.heap.size = g := ⟨_, rfl⟩
        obtain ⟨w3, hw3⟩ : ∃ W, w2.alloc (.cells #[.slice none 0 0, .int .i64 0] 84) = W := ⟨_, rfl⟩
        have hm3 : Mod nil w2 w3 := by rw [← hw3]; exact (Mod.refl _ _).alloc _
        have hb3 : w3.heap[b]? = some (.cells #[.slice none 0 0, .int .i64 0] 84 (0, 0)) := by rw [← hw3, ← hb]; exact heap_alloc_new _ _
        have HE3 : Hid (IsREncE (fun k => w2.heap.size ≤ k) w3 b [] 0) := Lib.hid ⟨by omega, none, 0, hb3, IsVec.nil _ _ _ _⟩
        have hs3 := hm3.size
        have HM3 := Lib.hid (HM2.out.thenNil hm3)
        have HB3 := Lib.hid (hm3.keep HB2.out)
        have HV3 : Hid (IsRow (fun k => w1.heap.size ≤ k ∧ k < w2.heap.size) w3 (.slice pB nB cB) (bys B)) := Lib.hid (by have h := (HVB.out.mono (T := fun k => w1.heap.size ≤ k ∧ k < w2.heap.size) (fun k hk h => ⟨h, hk⟩)).modNil hm3; rw [hnB] at h; exact h)
        clear hm3 hb3 hnB
        go_wp2_with fail
        clear hw3 hb
        refine (refNumE 0 _ b [] (nB : Int) 4 4 w3 HE3.out (fun k hk => by omega) rfl (.inr (.inr (.inr rfl))) (by simp)).mono ?_
        rw [HFIT.out]
        rintro e w4 ⟨rfl, he, hm⟩
        simp only at he
        have HV4 := Lib.hid (HV3.out.mod hm (fun k _ h h2 => by omega))
        have HE4 := Lib.hid he
        have HB4 := Lib.hid ((hm.block G (heap_lt HB3.out) (fun h => by have := HGL.out; omega)).trans HB3.out)
        have HM4 : Hid (Mod nil w w4) := Lib.hid (HM3.out.new hm (fun k hk => by have := HM1.out.size; omega))
        have hs4 := hm.size
        clear he hm
        go_wp2_with fail
        refine (refRawE 0 _ _ b (nb (nB : Int) 4) B _ w4 HE4.out (fun k hk => by omega) HV4.out (by rw [nb_length, HNB.out]; omega)).mono ?_
        rintro e w5 ⟨rfl, he, hm⟩
        have HE5 := Lib.hid he
        have HB5 := Lib.hid ((hm.block G (heap_lt HB4.out) (fun h => by have := HGL.out; omega)).trans HB4.out)
        have HM5 : Hid (Mod nil w w5) := Lib.hid (HM4.out.new hm (fun k hk => by have := HM1.out.size; omega))
        have hs5 := hm.size
        clear he hm
        obtain ⟨cz, w6, hconv, hrz, hm6⟩ := HC5.out w5
        obtain ⟨g6, hg6⟩ : ∃ g, w5.heap.size = g := ⟨_, rfl⟩
        rw [hg6] at hconv hrz
        have hs6 := hm6.size
        have HRZ : Hid (IsRow (fun k => w5.heap.size ≤ k ∧ k < w6.heap.size) w6 (.slice (some ⟨g6, 0, none⟩) 32 cz) (bys (z0 :: Z))) := Lib.hid (hrz.mono (fun k hk h => ⟨by omega, hk⟩))
        have HE6 : Hid (IsREncE (fun k => (w2.heap.size ≤ k ∧ k < w5.heap.size) ∨ w6.heap.size ≤ k) w6 b (nb (nB : Int) 4 ++ B) 0) := Lib.hid ((HE5.out.mono (T := fun k => (w2.heap.size ≤ k ∧ k < w5.heap.size) ∨ w6.heap.size ≤ k) (fun k hk h => .inl ⟨h, hk⟩)).modNil hm6)
        have HM6 := Lib.hid (HM5.out.thenNil hm6)
        have HB6 := Lib.hid (hm6.keep HB5.out)
        clear hrz hm6 hg6
        go_wp2_with fail
        clear hconv
        refine (refBytesE 0 _ _ b 32 cz _ (nb (nB : Int) 4 ++ B) (z0 :: Z) w6 HE6.out (fun k hk => .inr hk) HRZ.out (fun k _ h h2 => by omega) (by rw [List.length_append, nb_length, HNB.out]; omega)).mono ?_
        rw [HET.out]
        rintro e w7 ⟨rfl, he, hm⟩
        simp only at he
        have HE7 := Lib.hid he
        have HB7 := Lib.hid ((hm.block G (heap_lt HB6.out) (fun h => by have := HGL.out; omega)).trans HB6.out)
        have HM7 : Hid (Mod nil w w7) := Lib.hid (HM6.out.new hm (fun k hk => by have := HM1.out.size; omega))
        have hs7 := hm.size
        clear he hm
        rw [HNB.out, show ((((z0 :: Z) : List UInt8).length : Nat) : Int) = 32 from by rw [show ((z0 :: Z) : List UInt8).length = 32 from HLZ.out]; rfl, ← entF_app, show nb (nB : Int) 4 ++ (B ++ (nb 32 2 ++ (z0 :: Z))) = nb (nB : Int) 4 ++ B ++ nb 32 2 ++ (z0 :: Z) from by simp] at HACC2
        rw [HACC2.out] at HPOST
        have hln : (nb (nB : Int) 4 ++ B ++ nb 32 2 ++ (z0 :: Z)).length ≤ 1000000 := by rw [List.length_append, List.length_append, List.length_append, nb_length, nb_length, HNB.out, show ((z0 :: Z) : List UInt8).length = 32 from HLZ.out]; omega
        obtain ⟨X, hX⟩ : ∃ X, nb (nB : Int) 4 ++ B ++ nb 32 2 ++ (z0 :: Z) = X := ⟨_, rfl⟩
        rw [hX] at HE7 HPOST hln
        have hs12 := HM2.out.size
        clear hX
        go_wp2_with fail
        refine (refEntry _ 1 0 b X w7 HE7.out hln).mono ?_
        rintro e w8 ⟨p, n, c, rfl, hrow, hmn⟩
        obtain ⟨⟨⟨xk, xb⟩, xe⟩, hx⟩ : ∃ y, entF 1 (X, 0) [] = y := ⟨_, rfl⟩
        rw [hx] at hrow HPOST ⊢
        simp only at hrow ⊢
        have HBn := Lib.hid (hmn.keep HB7.out)
        have hle := HM1.out.size
        have hlt := HGL.out
        have HE := Lib.hid (HPOST.out _ _ (ent_fin (G := G) (B := w1.heap.size) HG.out hlt hle (hrow.mono (fun k _ h => by omega)) (HM7.out.thenNil hmn)))
        simp only at HE
        clear hrow hmn hx hle hlt
        go_wp2_with (refine wpList_store_row rfl _ _ _ rfl G #[.int .i64 xk, .slice p n c] rfl rfl 32 _ HBn.out info_ent rfl (by simp [Value.oneCell']) ?_)
        refine bodyPost_ret (results_cell_row2 rfl _ _ G 32 #[.int .i64 xk, .slice p n c] (0, 0) rfl (setRow_heap w8 G _ #[.int .i64 xk, .slice p n c] _ _ HBn.out) Tryz.underlying32 info_ent) rfl ?_
        exact HE.out
      · have HACC2 := Lib.hid (HACC.out.trans (if_pos (.inr ⟨by simp, by simp [hm]; omega⟩)))
        have h32' : ¬ ((m : Int) + 1 = 32) := by omega
        have h32'' : (((m : Int) + 1) != 32) = true := by rw [bne_iff_ne]; omega
        have h33 : (((m : Int) + 1) != 0) = true := by rw [bne_iff_ne]; omega
        have HE := Lib.hid (HPOST.out _ _ (ent_zero (G := G) HG.out HACC2.out HM2.out))
        clear h32
        go_wp2_with (refine wpList_store_row rfl _ _ _ rfl G #[.int .i64 0, .slice none 0 0] rfl rfl 32 _ HB2.out info_ent rfl (by simp [Value.oneCell']) ?_)
        refine bodyPost_ret (results_cell_row2 rfl _ _ G 32 #[.int .i64 0, .slice none 0 0] (0, 0) rfl (setRow_heap w2 G _ #[.int .i64 0, .slice none 0 0] _ _ HB2.out) Tryz.underlying32 info_ent) rfl ?_
        exact HE.out
  · have HE := Lib.hid (HPOST.out _ _ (ent_zero (G := G) HG.out (HACC.out.trans (if_pos (.inl he))) HM2.out))
    have hne : (er != 0) = true := by simpa using he
    clear he
    go_wp2_with (refine wpList_store_row rfl _ _ _ rfl G #[.int .i64 0, .slice none 0 0] rfl rfl 32 _ HB2.out info_ent rfl (by simp [Value.oneCell']) ?_)
    refine bodyPost_ret (results_cell_row2 rfl _ _ G 32 #[.int .i64 0, .slice none 0 0] (0, 0) rfl (setRow_heap w2 G _ #[.int .i64 0, .slice none 0 0] _ _ HB2.out) Tryz.underlying32 info_ent) rfl ?_
    exact HE.out
end Go.Proofs.YtdfpmlfdmhlhcaaGreat

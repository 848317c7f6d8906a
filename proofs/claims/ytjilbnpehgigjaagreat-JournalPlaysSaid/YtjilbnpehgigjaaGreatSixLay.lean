/- cflref6: the journal: lay. (Printed by wip/tools/gen_sixlay.py.) -/
import Derived.Test.YtjilbnpehgigjaaGreatShort
import Derived.Test.YtjilbnpehgigjaaGreatSixJ
namespace Go.Proofs.YtjilbnpehgigjaaGreat
open Go.RowKit
theorem IsRefIn.mono {w : World} {B C : Nat → Prop} {b : Nat} {d : DS} (h : IsRefIn w B b d) (hs : ∀ k, B k → C k) : IsRefIn w C b d := by
  obtain ⟨P1, P2, P3, v1, v2, v3, h, hb, hB⟩ := h
  exact ⟨P1, P2, P3, v1, v2, v3, h, hs _ hb, fun k hk => hs _ (hB k hk)⟩
theorem write_err (d : DS) (i : Nat) (l : List UInt8) (hi : i < d.lasts.length) (hl : l.length = 64) : (d.write (i : Int) l).2 = 0 ∨ (d.write (i : Int) l).2 = 13 := by
  have hs : d.sector (i : Int) = 0 ∨ d.sector (i : Int) = 13 := by
    unfold DS.sector
    by_cases hd : d.down = true
    · rw [if_pos hd]; exact .inr rfl
    · rw [if_neg hd, if_neg (by omega)]; exact .inl rfl
  unfold DS.write
  rcases hs with h | h
  · rw [if_neg (by rw [h]; simp), if_neg (by omega)]
    by_cases hh : d.holds = false
    · rw [if_pos hh]; exact .inr rfl
    · rw [if_neg hh]; exact .inl rfl
  · rw [if_pos (by rw [h]; decide)]; exact .inr h
theorem IsRJ.downs {S : Nat → Prop} {w : World} {jb db : Nat} {s : JS} (h : IsRJ S w jb db s) : IsRJ S (w.setCell ⟨jb, 8, none⟩ (.bool true)) jb db { s with down := true } := by
  obtain ⟨pp, cp, nr, pr, cr, h1, h2, h3⟩ := h.ex
  have h4 := heap_setCell_same h1 (.bool true) (off := 8)
  simp only [List.setIfInBounds_toArray, List.set_cons_succ, List.set_cons_zero] at h4
  have ms : Mod (· = jb) w (w.setCell ⟨jb, 8, none⟩ (.bool true)) := (Mod.refl _ _).setCell _ _ (fun _ => rfl)
  exact ⟨h.lo, pp, cp, nr, pr, cr, h4, h2.mod ms (fun k _ h e => h.1.2 e), h3.mod ms (fun k _ h e => h.2 e)⟩
theorem sect_row {T : Nat → Prop} {w : World} {g o nb cb : Nat} {b : List UInt8} (h : IsRow T w (.slice (some ⟨g, o, none⟩) nb cb) (bys b)) (hb : b.length = nb) (k a z : Nat) (ha : 64 * k = a) (hz : a + 64 = z) (hle : z ≤ nb) : IsRow T w (.slice (some ⟨g, o + a, none⟩) 64 (cb - a)) (bys (sectAt b k)) := by
  have h1 := row_drop (rowFront h z (by rw [bys_length, hb]; exact hle)) a (by rw [List.length_take, bys_length, hb]; omega)
  rw [← bysTake, ← bys_drop, List.drop_take, show z - a = 64 by omega] at h1
  unfold sectAt
  rw [ha]
  exact h1
set_option maxRecDepth 100000 in
set_option maxHeartbeats 8000000 in
theorem sixLay (S B T : Nat → Prop) (jb db half at_ m N X nb cb : Nat) (pb : Option Addr) (b : List UInt8) (s : JS) (d : DS) (w : World) (hj : IsRJ S w jb db s) (h : IsRefIn w B db d) (hSB : ∀ k, S k → k < w.heap.size → ¬ B k) (hrow : IsRow T w (.slice pb nb cb) (bys b)) (hT : ∀ k, T k → k < w.heap.size ∧ ¬ B k) (hcap : nb ≤ cb) (hcm : cb ≤ maxLen)
    (hm : b.length = 64 * m) (h1 : 1 ≤ m) (hN : d.lasts.length / 2 = N) (hh : half ≤ 1) (ha : at_ + m ≤ N) (hX : half * N + at_ = X) :
    Calls Tryz.prog 44 #[.pointer (some ⟨jb, 0, none⟩), .int .i64 half, .int .i64 at_, .slice pb nb cb] w fun e w' => e = .returned (.int .i64 (if (d.lays X b m).2 = true then 0 else 13)) ∧ IsRJ S w' jb db { s with down := s.down || !(d.lays X b m).2 } ∧ IsRefIn w' (fun k => B k ∨ w.heap.size ≤ k) db (d.lays X b m).1 ∧ Mod (fun k => B k ∨ k = jb) w w' := by
  refine (?_ : ∀ Post : Ending → World → Prop, Hid (∀ e w', (e = .returned (.int .i64 (if (d.lays X b m).2 = true then 0 else 13)) ∧ IsRJ S w' jb db { s with down := s.down || !(d.lays X b m).2 } ∧ IsRefIn w' (fun k => B k ∨ w.heap.size ≤ k) db (d.lays X b m).1 ∧ Mod (fun k => B k ∨ k = jb) w w') → Post e w') → Calls Tryz.prog 44 #[.pointer (some ⟨jb, 0, none⟩), .int .i64 half, .int .i64 at_, .slice pb nb cb] w Post) _ (Lib.hid (fun _ _ h => h))
  intro Post HPOST
  have hbl : b.length = nb := by
    obtain ⟨_, _, h, _⟩ := hrow
    simp only [Value.slice.injEq, bys_length] at h
    exact h.2.1.symm
  obtain ⟨g, o, rfl, -, -⟩ := row_some hrow (by omega)
  obtain ⟨pp, cp, nr, pr, cr, hb1, -, -⟩ := id hj.ex
  have c0 := cell_of hb1 0
  simp only [List.getElem?_toArray, List.getElem?_cons_zero] at c0
  have hroom := h.room
  have hjl := heap_lt hb1
  have hjB : ¬ B jb := hSB jb hj.lo hjl
  have HJ := Lib.hid hj
  have HD := Lib.hid h
  have HROW := Lib.hid hrow
  have HT := Lib.hid hT
  have HSB := Lib.hid hSB
  have HBL := Lib.hid hbl
  have HNL : Hid (2 * N ≤ d.lasts.length) := Lib.hid (by omega)
  have HK : Hid (∀ W, Mod (fun k => B k ∨ w.heap.size ≤ k) w W → (fun w' => w'.cell? ⟨jb, 0, none⟩ = some (.pointer (some ⟨db, 0, none⟩))) W) := Lib.hid (fun W m => cell_kept c0 m hjl (fun h => h.elim hjB (fun h => by omega)))
  have HL := Lib.hid (fun W (m : Mod nil w W) => refLen db B d W (h.mod m (fun _ _ _ f => f)))
  obtain ⟨n, hn⟩ : ∃ n, d.lasts.length = n := ⟨_, rfl⟩
  rw [hn] at HL hN hroom
  have hdiv : (n : Int) / 2 = (N : Int) := by omega
  have hNb : N ≤ 4096 := by omega
  obtain ⟨HB, hHB⟩ : ∃ x, half * N = x := ⟨_, rfl⟩
  have hHBb : HB ≤ 4096 := by rw [← hHB]; have := Nat.mul_le_mul hh (Nat.le_refl N); omega
  have hXb : X + m ≤ 8192 ∧ HB + at_ = X ∧ HB ≤ N := by rw [← hHB]; have := Nat.mul_le_mul hh (Nat.le_refl N); omega
  have HNN := Lib.hid hn
  have hmul : (half : Int) * (N : Int) = (HB : Int) := by rw [← hHB]; simp
  have hsum : (HB : Int) + (at_ : Int) = (X : Int) := by omega
  have hmb : m ≤ 4096 := by omega
  have hnb : nb = 64 * m := by omega
  have hnq : (nb : Int) / 64 = (m : Int) := by omega
  have HNB := Lib.hid hnb
  have hcb : (cb : Int) ≤ 9223372036854775807 := by unfold maxLen at hcm; omega
  have hnbb : nb ≤ 262144 ∧ 64 ≤ nb := by omega
  clear hj h hrow hT hSB hbl hb1 hm hN hX hn hHB hnb hcm
  go_enter Tryz.func44, Tryz.ntmps44
  go_wp2_with fail
  refine (HL.out w (Mod.refl _ _)).mono ?_
  rintro e w0 ⟨rfl, hw0⟩
  obtain rfl : w = w0 := hw0.symm
  go_wp2_with fail
  clear c0
  go_loopw [10, 11] (fun v10 v11 wr => ∃ (k : Nat) (er : Int) (dk : DS), 1 ≤ k ∧ k ≤ m ∧ v11 = .int .i64 k ∧ v10 = .int .i64 er ∧ Hid ((er = 0 ∧ d.tails X b (m - 1) 1 = dk.tails X b (m - k) k) ∨ (er = 13 ∧ d.tails X b (m - 1) 1 = (dk, false))) ∧ Hid (IsRefIn wr (fun k => B k ∨ w.heap.size ≤ k) db dk) ∧ Hid (Mod (fun k => B k ∨ w.heap.size ≤ k) w wr) ∧ Hid (dk.lasts.length = d.lasts.length)) (fun _ v _ => m - (intOf v).toNat)
  case atStart => exact ⟨1, 0, d, by omega, by omega, by go_num, rfl, Lib.hid (.inl ⟨rfl, rfl⟩), Lib.hid (HD.out.mono (fun _ h => .inl h)), Lib.hid (Mod.refl _ _), Lib.hid rfl⟩
  case round =>
    obtain ⟨k, er, dk, hk1, hkm, rfl, rfl, HTL, HDK, HM, HLN⟩ := hrel
    rcases HTL.out with ⟨rfl, hte⟩ | ⟨rfl, hte⟩
    · have HTE := Lib.hid hte
      clear hte HTL
      by_cases hlt : k < m
      · obtain ⟨a, hax⟩ : ∃ a, 64 * k = a := ⟨_, rfl⟩
        obtain ⟨z, hz⟩ : ∃ z, a + 64 = z := ⟨_, rfl⟩
        obtain ⟨y, hy⟩ : ∃ y, X + k = y := ⟨_, rfl⟩
        have q1 : 64 * (k : Int) = (a : Int) := by omega
        have q2 : (a : Int) + 64 = (z : Int) := by omega
        have q3 : (X : Int) + (k : Int) = (y : Int) := by omega
        have r1 : IntKind.i64.wrap (64 * (k : Int)) = (a : Int) := by rw [q1, IntKind.wrap_i64]; omega
        have r2 : IntKind.i64.wrap ((a : Int) + 64) = (z : Int) := by rw [q2, IntKind.wrap_i64]; omega
        have r3 : IntKind.i64.wrap ((X : Int) + (k : Int)) = (y : Int) := by rw [q3, IntKind.wrap_i64]; omega
        have r4 : IntKind.i64.wrap (a : Int) = (a : Int) := by rw [IntKind.wrap_i64]; omega
        have r5 : IntKind.i64.wrap (z : Int) = (z : Int) := by rw [IntKind.wrap_i64]; omega
        have r6 : IntKind.i64.wrap (y : Int) = (y : Int) := by rw [IntKind.wrap_i64]; omega
        have hzn : z ≤ nb ∧ ¬ cb = a ∧ z ≤ cb ∧ a ≤ z ∧ z - a = 64 := by have := HNB.out; omega
        obtain ⟨hz1, hz2, hz3, hz4, hz5⟩ := hzn
        have hz6 : (z : Int) ≤ (cb : Int) ∧ (a : Int) ≤ (z : Int) := by omega
        have HROWR : Hid (IsRow T wr (.slice (some ⟨g, o, none⟩) nb cb) (bys b)) := Lib.hid (HROW.out.mod HM.out (fun j hj hT h => h.elim (HT.out j hT).2 (fun h => by omega)))
        have HWR := Lib.hid (fun W (mm : Mod nil wr W) => refWrite db (fun k => B k ∨ w.heap.size ≤ k) T dk (y : Int) _ (sectAt b k) W (HDK.out.mod mm (fun _ _ _ f => f)) (sect_row (HROWR.out.modNil mm) HBL.out k a z hax hz hz1) (fun j hj h => by have := HT.out j hj; rcases h with h | h; exact this.2 h; omega) (by unfold sectAt; rw [List.length_take]; omega))
        have HY := Lib.hid hy
        have HER := Lib.hid (write_err dk y (sectAt b k) (by rw [HLN.out]; have := HNL.out; omega) (by unfold sectAt; rw [List.length_take, List.length_drop, HBL.out]; omega))
        have hmr := HM.out
        have cj : wr.cell? ⟨jb, 0, none⟩ = some (.pointer (some ⟨db, 0, none⟩)) := HK.out wr HM.out
        clear hax hz hy
        go_upto_region 6 with (fail)
        refine wp_region_held_drew (S := (fun w' => w'.cell? ⟨jb, 0, none⟩ = some (.pointer (some ⟨db, 0, none⟩)))) (by kernel_rfl) (HK.out _ (by (repeat (first | assumption | exact Mod.refl _ _ | refine Mod.drew ?_)))) (fun hHeld => ?_)
        refine tH 0 ?_
        (try simp only [Act.put, pT])
        refine tH 1 ?_
        (try simp only [Act.put, pT])
        refine tH 2 ?_
        (try simp only [Act.put, pT])
        refine tH 3 ?_
        (try simp only [Act.put, pT])
        refine tH 4 ?_
        (try simp only [Act.put, pT])
        refine tH 5 ?_
        (try simp only [Act.put, pT])
        refine tH 6 ?_
        (try simp only [Act.put, pT])
        refine tH 7 ?_
        (try simp only [Act.put, pT])
        refine tH 8 ?_
        (try simp only [Act.put, pT])
        refine tH 9 ?_
        (try simp only [Act.put, pT])
        refine tH 10 ?_
        (try simp only [Act.put, pT])
        refine tH 11 ?_
        (try simp only [Act.put, pT])
        refine tH 12 ?_
        (try simp only [Act.put, pT])
        refine tH 13 ?_
        (try simp only [Act.put, pT])
        refine wpAnyH_ready (rs := [14]) (by kernel_rfl) (by simp) ?_
        refine AllReadyH.cons (i := 14) rfl (fun K hK => ?_) AllReadyH.nil
        (try dsimp (config := { proj := false }) only [g0, g1, g2])
        go_simp
        refine (HWR.out _ ?_).mono ?_
        · (repeat (first | assumption | exact Mod.refl _ _ | refine Mod.drew ?_))
        rintro e w1 ⟨rfl, hd1, hm1⟩
        have hmw0 : Mod (fun k => B k ∨ w.heap.size ≤ k) wr w1 := ((show Mod nil wr _ from by (repeat (first | assumption | exact Mod.refl _ _ | refine Mod.drew ?_))).ofNil (S := (fun k => B k ∨ w.heap.size ≤ k))).trans hm1 (fun _ _ h => h)
        have hmw : Mod (fun k => B k ∨ w.heap.size ≤ k) w w1 := HM.out.trans hmw0 (fun _ _ h => h)
        have HD1 := Lib.hid hd1
        clear hd1 hm1
        refine hK.out _ _ (HK.out _ (by (repeat (first | assumption | exact Mod.refl _ _ | refine Mod.drew ?_)))) (fun hHeld => ?_)
        clear hK K
        (try simp only [Act.put, pT])
        refine tH 15 ?_
        (try simp only [Act.put, pT])
        refine wpAnyH_done (by kernel_rfl) ?_ _
        obtain ⟨⟨d2, e2⟩, hw2⟩ : ∃ x, dk.write (y : Int) (sectAt b k) = x := ⟨_, rfl⟩
        have her := HER.out
        have hln : (dk.write (y : Int) (sectAt b k)).1.lasts.length = d.lasts.length := by rw [DS.write_len, HLN.out]
        have htl : d.tails X b (m - 1) 1 = if e2 = 0 then d2.tails X b (m - (k + 1)) (k + 1) else (d2, false) := by
          rw [HTE.out, show m - k = (m - (k + 1)) + 1 by omega]
          by_cases he2 : e2 = 0
          · rw [if_pos he2, DS.tails_go _ _ _ _ _ (by rw [HY.out, hw2]; exact he2), HY.out, hw2]
          · rw [if_neg he2, DS.tails_stop _ _ _ _ _ (by rw [HY.out, hw2]; exact he2), HY.out, hw2]
        rw [hw2] at her HD1 hln ⊢
        simp only at her HD1 hln ⊢
        have HTLN : Hid ((e2 = 0 ∧ d.tails X b (m - 1) 1 = d2.tails X b (m - (k + 1)) (k + 1)) ∨ (e2 = 13 ∧ d.tails X b (m - 1) 1 = (d2, false))) := Lib.hid (by
          rcases her with h | h
          · exact .inl ⟨h, by rw [htl, if_pos h]⟩
          · exact .inr ⟨h, by rw [htl, if_neg (by omega)]⟩)
        have HDN : Hid (IsRefIn w1 (fun k => B k ∨ w.heap.size ≤ k) db d2) := Lib.hid (HD1.out.mono (fun k h => h.elim id (fun h => .inr (by have := HM.out.size; simp at h; omega))))
        have HMN := Lib.hid hmw
        have HLNN := Lib.hid hln
        clear her hln htl hw2 HD1 hmw hmw0 hHeld cj hmr q1 q2 q3 r1 r2 r3 r4 r5 r6 HWR
        go_wp2_with fail
        exact ⟨⟨k + 1, e2, d2, by omega, by omega, by go_num, rfl, HTLN, HDN, HMN, HLNN⟩, by simp [intOf]; omega⟩
      · obtain rfl : k = m := by omega
        have HT1 : Hid (d.tails X b (k - 1) 1 = (dk, true)) := Lib.hid (by rw [HTE.out, Nat.sub_self]; rfl)
        have HLAY0 : Hid (d.lays X b k = dk.heads X b k) := Lib.hid (by unfold DS.lays; rw [HT1.out, if_pos rfl])
        have cj0 : wr.cell? ⟨jb, 0, none⟩ = some (.pointer (some ⟨db, 0, none⟩)) := HK.out wr HM.out
        by_cases hm1 : 1 < k
        · have hgt : (64 : Int) < (nb : Int) := by have := HNB.out; omega
          have HSY := Lib.hid (refSync db (fun k => B k ∨ w.heap.size ≤ k) dk wr HDK.out)
          have hse := DS.sync_err dk
          go_wp2_with fail
          refine HSY.out.mono ?_
          have hly : d.lays X b k = _ := HLAY0.out
          unfold DS.heads at hly
          have hsl : dk.sync.1.lasts.length = d.lasts.length := by rw [DS.sync_len, HLN.out]
          obtain ⟨⟨d3, e3⟩, hs3⟩ : ∃ x, dk.sync = x := ⟨_, rfl⟩
          rw [hs3] at hse hly hsl ⊢
          simp only at hse hly hsl ⊢
          rintro e w3 ⟨rfl, hd3, hm3⟩
          have HD3 := Lib.hid hd3
          have HM3 := Lib.hid (HM.out.trans hm3 (fun _ _ h => h))
          have HLN3 := Lib.hid hsl
          clear hd3 hm3 hs3 HSY cj0 hsl
          rcases hse with rfl | rfl
          rotate_left
          · have HLAY : Hid (d.lays X b k = (d3, false)) := Lib.hid (by rw [hly, if_pos ⟨hm1, by decide⟩])
            clear hly
            have hjW := HJ.out.mod HM3.out (fun k hk hs h => h.elim (HSB.out k hs hk) (fun h => by omega))
            obtain ⟨pp', cp', nr', pr', cr', hbj, -, -⟩ := id hjW.ex
            have k8 := cell_of hbj 8
            have z8 := free_of hbj 8
            simp only [List.getElem?_toArray, List.getElem?_cons_zero, List.getElem?_cons_succ] at k8
            have ms : Mod (· = jb) w3 (w3.setCell ⟨jb, 8, none⟩ (.bool true)) := (Mod.refl _ _).setCell _ _ (fun _ => rfl)
            have HE := Lib.hid (HPOST.out (.returned (.int .i64 13)) (w3.setCell ⟨jb, 8, none⟩ (.bool true)) ⟨by rw [HLAY.out]; rfl, by rw [HLAY.out]; simpa using hjW.downs, by rw [HLAY.out]; exact HD3.out.mod ms (fun k _ h e => by rw [e] at h; exact h.elim hjB (fun h => by omega)), (HM3.out.mono (fun k hk h => h.elim .inl (fun h => by omega))).trans ms (fun k _ e => .inr e)⟩)
            clear ms hbj hjW
            go_wp2_with fail
            exact HE.out
          have HLY : Hid (d.lays X b k = if (d3.write (X : Int) (sectAt b 0)).2 ≠ 0 then ((d3.write (X : Int) (sectAt b 0)).1, false) else ((d3.write (X : Int) (sectAt b 0)).1.sync.1, decide ((d3.write (X : Int) (sectAt b 0)).1.sync.2 = 0))) := Lib.hid (by rw [hly, if_neg (by simp), if_pos hm1])
          clear hly
          have HROWR : Hid (IsRow T w3 (.slice (some ⟨g, o, none⟩) nb cb) (bys b)) := Lib.hid (HROW.out.mod HM3.out (fun j hj hT h => h.elim (HT.out j hT).2 (fun h => by omega)))
          have hfr : ∀ V, Mod nil w3 V → IsRow T V (.slice (some ⟨g, o, none⟩) 64 cb) (bys (sectAt b 0)) := fun V mm => by
            have h := rowFront (HROWR.out.modNil mm) 64 (by rw [bys_length, HBL.out]; omega)
            rw [← bysTake] at h
            unfold sectAt
            rw [Nat.mul_zero, List.drop_zero]
            exact h
          have HWR := Lib.hid (fun V (mm : Mod nil w3 V) => refWrite db (fun k => B k ∨ w.heap.size ≤ k) T d3 (X : Int) _ (sectAt b 0) V (HD3.out.mod mm (fun _ _ _ f => f)) (hfr V mm) (fun j hj h => by have := HT.out j hj; rcases h with h | h; exact this.2 h; omega) (by unfold sectAt; rw [List.length_take]; omega))
          have HER := Lib.hid (write_err d3 X (sectAt b 0) (by rw [HLN3.out]; have := HNL.out; omega) (by unfold sectAt; rw [List.length_take, List.length_drop, HBL.out]; omega))
          have hmr := HM3.out
          have cj : w3.cell? ⟨jb, 0, none⟩ = some (.pointer (some ⟨db, 0, none⟩)) := HK.out w3 HM3.out
          have x64 : ¬ cb = 0 ∧ (64 : Int) ≤ (cb : Int) ∧ 64 ≤ cb := by omega
          obtain ⟨x64a, x64b, x64c⟩ := x64
          clear hfr
          go_upto_region 10 with (fail)
          refine wp_region_held_drew (S := (fun w' => w'.cell? ⟨jb, 0, none⟩ = some (.pointer (some ⟨db, 0, none⟩)))) (by kernel_rfl) (HK.out _ (by (repeat (first | assumption | exact Mod.refl _ _ | refine Mod.drew ?_)))) (fun hHeld => ?_)
          refine tH 0 ?_
          (try simp only [Act.put, pT])
          refine tH 1 ?_
          (try simp only [Act.put, pT])
          refine tH 2 ?_
          (try simp only [Act.put, pT])
          refine tH 3 ?_
          (try simp only [Act.put, pT])
          refine tH 4 ?_
          (try simp only [Act.put, pT])
          refine tH 5 ?_
          (try simp only [Act.put, pT])
          refine tH 6 ?_
          (try simp only [Act.put, pT])
          refine wpAnyH_ready (rs := [7]) (by kernel_rfl) (by simp) ?_
          refine AllReadyH.cons (i := 7) rfl (fun K hK => ?_) AllReadyH.nil
          (try dsimp (config := { proj := false }) only [g0, g1, g2])
          go_simp
          refine (HWR.out _ ?_).mono ?_
          · (repeat (first | assumption | exact Mod.refl _ _ | refine Mod.drew ?_))
          rintro e w5 ⟨rfl, hd1, hm1⟩
          have hmw0 : Mod (fun k => B k ∨ w.heap.size ≤ k) w3 w5 := ((show Mod nil w3 _ from by (repeat (first | assumption | exact Mod.refl _ _ | refine Mod.drew ?_))).ofNil (S := (fun k => B k ∨ w.heap.size ≤ k))).trans hm1 (fun _ _ h => h)
          have hmw : Mod (fun k => B k ∨ w.heap.size ≤ k) w w5 := HM3.out.trans hmw0 (fun _ _ h => h)
          have HD1 := Lib.hid hd1
          clear hd1 hm1
          refine hK.out _ _ (HK.out _ (by (repeat (first | assumption | exact Mod.refl _ _ | refine Mod.drew ?_)))) (fun hHeld => ?_)
          clear hK K
          (try simp only [Act.put, pT])
          refine tH 8 ?_
          (try simp only [Act.put, pT])
          refine wpAnyH_done (by kernel_rfl) ?_ _
          obtain ⟨⟨d5, e5⟩, hw5⟩ : ∃ x, d3.write (X : Int) (sectAt b 0) = x := ⟨_, rfl⟩
          have her := HER.out
          have hhd := HLY.out
          rw [hw5] at her HD1 hhd ⊢
          simp only at her HD1 hhd ⊢
          have HD5 : Hid (IsRefIn w5 (fun k => B k ∨ w.heap.size ≤ k) db d5) := Lib.hid (HD1.out.mono (fun k h => h.elim id (fun h => .inr (by have := HM3.out.size; simp at h; omega))))
          have HM5 := Lib.hid hmw
          clear HD1 hw5 HER HWR hHeld hmw0 hmw cj hmr
          rcases her with rfl | rfl
          rotate_left
          · have HLAY : Hid (d.lays X b k = (d5, false)) := Lib.hid (by rw [hhd, if_pos (by decide)])
            clear hhd
            have hjW := HJ.out.mod HM5.out (fun k hk hs h => h.elim (HSB.out k hs hk) (fun h => by omega))
            obtain ⟨pp', cp', nr', pr', cr', hbj, -, -⟩ := id hjW.ex
            have k8 := cell_of hbj 8
            have z8 := free_of hbj 8
            simp only [List.getElem?_toArray, List.getElem?_cons_zero, List.getElem?_cons_succ] at k8
            have ms : Mod (· = jb) w5 (w5.setCell ⟨jb, 8, none⟩ (.bool true)) := (Mod.refl _ _).setCell _ _ (fun _ => rfl)
            have HE := Lib.hid (HPOST.out (.returned (.int .i64 13)) (w5.setCell ⟨jb, 8, none⟩ (.bool true)) ⟨by rw [HLAY.out]; rfl, by rw [HLAY.out]; simpa using hjW.downs, by rw [HLAY.out]; exact HD5.out.mod ms (fun k _ h e => by rw [e] at h; exact h.elim hjB (fun h => by omega)), (HM5.out.mono (fun k hk h => h.elim .inl (fun h => by omega))).trans ms (fun k _ e => .inr e)⟩)
            clear ms hbj hjW
            go_wp2_with fail
            exact HE.out
          have cj5 : w5.cell? ⟨jb, 0, none⟩ = some (.pointer (some ⟨db, 0, none⟩)) := HK.out w5 HM5.out
          rw [if_neg (by decide)] at hhd
          have HHD := Lib.hid hhd
          have HSY := Lib.hid (refSync db (fun k => B k ∨ w.heap.size ≤ k) d5 w5 HD5.out)
          have hse := DS.sync_err d5
          clear hhd
          go_wp2_with fail
          refine HSY.out.mono ?_
          obtain ⟨⟨d6, e6⟩, hs6⟩ : ∃ x, d5.sync = x := ⟨_, rfl⟩
          have hhd := HHD.out
          rw [hs6] at hse hhd ⊢
          simp only at hse hhd ⊢
          rintro e w6 ⟨rfl, hd6, hm6⟩
          have HD6 := Lib.hid hd6
          have HM6 := Lib.hid (HM5.out.trans hm6 (fun _ _ h => h))
          clear hd6 hm6 hs6 HSY HHD cj5
          rcases hse with rfl | rfl
          · have HLAY : Hid (d.lays X b k = (d6, true)) := Lib.hid (by rw [hhd]; rfl)
            clear hhd
            have hjW := HJ.out.mod HM6.out (fun k hk hs h => h.elim (HSB.out k hs hk) (fun h => by omega))
            have HE := Lib.hid (HPOST.out (.returned (.int .i64 0)) w6 ⟨by rw [HLAY.out]; rfl, by rw [HLAY.out]; simpa using hjW, by rw [HLAY.out]; exact HD6.out, HM6.out.mono (fun k hk h => h.elim .inl (fun h => by omega))⟩)
            clear hjW
            go_wp2_with fail
            exact HE.out
          · have HLAY : Hid (d.lays X b k = (d6, false)) := Lib.hid (by rw [hhd]; rfl)
            clear hhd
            have hjW := HJ.out.mod HM6.out (fun k hk hs h => h.elim (HSB.out k hs hk) (fun h => by omega))
            obtain ⟨pp', cp', nr', pr', cr', hbj, -, -⟩ := id hjW.ex
            have k8 := cell_of hbj 8
            have z8 := free_of hbj 8
            simp only [List.getElem?_toArray, List.getElem?_cons_zero, List.getElem?_cons_succ] at k8
            have ms : Mod (· = jb) w6 (w6.setCell ⟨jb, 8, none⟩ (.bool true)) := (Mod.refl _ _).setCell _ _ (fun _ => rfl)
            have HE := Lib.hid (HPOST.out (.returned (.int .i64 13)) (w6.setCell ⟨jb, 8, none⟩ (.bool true)) ⟨by rw [HLAY.out]; rfl, by rw [HLAY.out]; simpa using hjW.downs, by rw [HLAY.out]; exact HD6.out.mod ms (fun k _ h e => by rw [e] at h; exact h.elim hjB (fun h => by omega)), (HM6.out.mono (fun k hk h => h.elim .inl (fun h => by omega))).trans ms (fun k _ e => .inr e)⟩)
            clear ms hbj hjW
            go_wp2_with fail
            exact HE.out
        · have hgt : ¬ (64 : Int) < (nb : Int) := by have := HNB.out; omega
          have HLN3 := HLN
          have HLY : Hid (d.lays X b k = if (dk.write (X : Int) (sectAt b 0)).2 ≠ 0 then ((dk.write (X : Int) (sectAt b 0)).1, false) else ((dk.write (X : Int) (sectAt b 0)).1.sync.1, decide ((dk.write (X : Int) (sectAt b 0)).1.sync.2 = 0))) := Lib.hid (by
            rw [HLAY0.out]
            unfold DS.heads
            rw [if_neg (fun h => hm1 h.1), if_neg hm1])
          clear cj0 hm1
          have HROWR : Hid (IsRow T wr (.slice (some ⟨g, o, none⟩) nb cb) (bys b)) := Lib.hid (HROW.out.mod HM.out (fun j hj hT h => h.elim (HT.out j hT).2 (fun h => by omega)))
          have hfr : ∀ V, Mod nil wr V → IsRow T V (.slice (some ⟨g, o, none⟩) 64 cb) (bys (sectAt b 0)) := fun V mm => by
            have h := rowFront (HROWR.out.modNil mm) 64 (by rw [bys_length, HBL.out]; omega)
            rw [← bysTake] at h
            unfold sectAt
            rw [Nat.mul_zero, List.drop_zero]
            exact h
          have HWR := Lib.hid (fun V (mm : Mod nil wr V) => refWrite db (fun k => B k ∨ w.heap.size ≤ k) T dk (X : Int) _ (sectAt b 0) V (HDK.out.mod mm (fun _ _ _ f => f)) (hfr V mm) (fun j hj h => by have := HT.out j hj; rcases h with h | h; exact this.2 h; omega) (by unfold sectAt; rw [List.length_take]; omega))
          have HER := Lib.hid (write_err dk X (sectAt b 0) (by rw [HLN3.out]; have := HNL.out; omega) (by unfold sectAt; rw [List.length_take, List.length_drop, HBL.out]; omega))
          have hmr := HM.out
          have cj : wr.cell? ⟨jb, 0, none⟩ = some (.pointer (some ⟨db, 0, none⟩)) := HK.out wr HM.out
          have x64 : ¬ cb = 0 ∧ (64 : Int) ≤ (cb : Int) ∧ 64 ≤ cb := by omega
          obtain ⟨x64a, x64b, x64c⟩ := x64
          clear hfr
          go_upto_region 10 with (fail)
          refine wp_region_held_drew (S := (fun w' => w'.cell? ⟨jb, 0, none⟩ = some (.pointer (some ⟨db, 0, none⟩)))) (by kernel_rfl) (HK.out _ (by (repeat (first | assumption | exact Mod.refl _ _ | refine Mod.drew ?_)))) (fun hHeld => ?_)
          refine tH 0 ?_
          (try simp only [Act.put, pT])
          refine tH 1 ?_
          (try simp only [Act.put, pT])
          refine tH 2 ?_
          (try simp only [Act.put, pT])
          refine tH 3 ?_
          (try simp only [Act.put, pT])
          refine tH 4 ?_
          (try simp only [Act.put, pT])
          refine tH 5 ?_
          (try simp only [Act.put, pT])
          refine tH 6 ?_
          (try simp only [Act.put, pT])
          refine wpAnyH_ready (rs := [7]) (by kernel_rfl) (by simp) ?_
          refine AllReadyH.cons (i := 7) rfl (fun K hK => ?_) AllReadyH.nil
          (try dsimp (config := { proj := false }) only [g0, g1, g2])
          go_simp
          refine (HWR.out _ ?_).mono ?_
          · (repeat (first | assumption | exact Mod.refl _ _ | refine Mod.drew ?_))
          rintro e w5 ⟨rfl, hd1, hm1⟩
          have hmw0 : Mod (fun k => B k ∨ w.heap.size ≤ k) wr w5 := ((show Mod nil wr _ from by (repeat (first | assumption | exact Mod.refl _ _ | refine Mod.drew ?_))).ofNil (S := (fun k => B k ∨ w.heap.size ≤ k))).trans hm1 (fun _ _ h => h)
          have hmw : Mod (fun k => B k ∨ w.heap.size ≤ k) w w5 := HM.out.trans hmw0 (fun _ _ h => h)
          have HD1 := Lib.hid hd1
          clear hd1 hm1
          refine hK.out _ _ (HK.out _ (by (repeat (first | assumption | exact Mod.refl _ _ | refine Mod.drew ?_)))) (fun hHeld => ?_)
          clear hK K
          (try simp only [Act.put, pT])
          refine tH 8 ?_
          (try simp only [Act.put, pT])
          refine wpAnyH_done (by kernel_rfl) ?_ _
          obtain ⟨⟨d5, e5⟩, hw5⟩ : ∃ x, dk.write (X : Int) (sectAt b 0) = x := ⟨_, rfl⟩
          have her := HER.out
          have hhd := HLY.out
          rw [hw5] at her HD1 hhd ⊢
          simp only at her HD1 hhd ⊢
          have HD5 : Hid (IsRefIn w5 (fun k => B k ∨ w.heap.size ≤ k) db d5) := Lib.hid (HD1.out.mono (fun k h => h.elim id (fun h => .inr (by have := HM.out.size; simp at h; omega))))
          have HM5 := Lib.hid hmw
          clear HD1 hw5 HER HWR hHeld hmw0 hmw cj hmr
          rcases her with rfl | rfl
          rotate_left
          · have HLAY : Hid (d.lays X b k = (d5, false)) := Lib.hid (by rw [hhd, if_pos (by decide)])
            clear hhd
            have hjW := HJ.out.mod HM5.out (fun k hk hs h => h.elim (HSB.out k hs hk) (fun h => by omega))
            obtain ⟨pp', cp', nr', pr', cr', hbj, -, -⟩ := id hjW.ex
            have k8 := cell_of hbj 8
            have z8 := free_of hbj 8
            simp only [List.getElem?_toArray, List.getElem?_cons_zero, List.getElem?_cons_succ] at k8
            have ms : Mod (· = jb) w5 (w5.setCell ⟨jb, 8, none⟩ (.bool true)) := (Mod.refl _ _).setCell _ _ (fun _ => rfl)
            have HE := Lib.hid (HPOST.out (.returned (.int .i64 13)) (w5.setCell ⟨jb, 8, none⟩ (.bool true)) ⟨by rw [HLAY.out]; rfl, by rw [HLAY.out]; simpa using hjW.downs, by rw [HLAY.out]; exact HD5.out.mod ms (fun k _ h e => by rw [e] at h; exact h.elim hjB (fun h => by omega)), (HM5.out.mono (fun k hk h => h.elim .inl (fun h => by omega))).trans ms (fun k _ e => .inr e)⟩)
            clear ms hbj hjW
            go_wp2_with fail
            exact HE.out
          have cj5 : w5.cell? ⟨jb, 0, none⟩ = some (.pointer (some ⟨db, 0, none⟩)) := HK.out w5 HM5.out
          rw [if_neg (by decide)] at hhd
          have HHD := Lib.hid hhd
          have HSY := Lib.hid (refSync db (fun k => B k ∨ w.heap.size ≤ k) d5 w5 HD5.out)
          have hse := DS.sync_err d5
          clear hhd
          go_wp2_with fail
          refine HSY.out.mono ?_
          obtain ⟨⟨d6, e6⟩, hs6⟩ : ∃ x, d5.sync = x := ⟨_, rfl⟩
          have hhd := HHD.out
          rw [hs6] at hse hhd ⊢
          simp only at hse hhd ⊢
          rintro e w6 ⟨rfl, hd6, hm6⟩
          have HD6 := Lib.hid hd6
          have HM6 := Lib.hid (HM5.out.trans hm6 (fun _ _ h => h))
          clear hd6 hm6 hs6 HSY HHD cj5
          rcases hse with rfl | rfl
          · have HLAY : Hid (d.lays X b k = (d6, true)) := Lib.hid (by rw [hhd]; rfl)
            clear hhd
            have hjW := HJ.out.mod HM6.out (fun k hk hs h => h.elim (HSB.out k hs hk) (fun h => by omega))
            have HE := Lib.hid (HPOST.out (.returned (.int .i64 0)) w6 ⟨by rw [HLAY.out]; rfl, by rw [HLAY.out]; simpa using hjW, by rw [HLAY.out]; exact HD6.out, HM6.out.mono (fun k hk h => h.elim .inl (fun h => by omega))⟩)
            clear hjW
            go_wp2_with fail
            exact HE.out
          · have HLAY : Hid (d.lays X b k = (d6, false)) := Lib.hid (by rw [hhd]; rfl)
            clear hhd
            have hjW := HJ.out.mod HM6.out (fun k hk hs h => h.elim (HSB.out k hs hk) (fun h => by omega))
            obtain ⟨pp', cp', nr', pr', cr', hbj, -, -⟩ := id hjW.ex
            have k8 := cell_of hbj 8
            have z8 := free_of hbj 8
            simp only [List.getElem?_toArray, List.getElem?_cons_zero, List.getElem?_cons_succ] at k8
            have ms : Mod (· = jb) w6 (w6.setCell ⟨jb, 8, none⟩ (.bool true)) := (Mod.refl _ _).setCell _ _ (fun _ => rfl)
            have HE := Lib.hid (HPOST.out (.returned (.int .i64 13)) (w6.setCell ⟨jb, 8, none⟩ (.bool true)) ⟨by rw [HLAY.out]; rfl, by rw [HLAY.out]; simpa using hjW.downs, by rw [HLAY.out]; exact HD6.out.mod ms (fun k _ h e => by rw [e] at h; exact h.elim hjB (fun h => by omega)), (HM6.out.mono (fun k hk h => h.elim .inl (fun h => by omega))).trans ms (fun k _ e => .inr e)⟩)
            clear ms hbj hjW
            go_wp2_with fail
            exact HE.out
    · have HLAY : Hid (d.lays X b m = (dk, false)) := Lib.hid (by unfold DS.lays; rw [hte, if_neg (by simp)])
      clear hte HTL
      by_cases hlt : k < m
      all_goals
        have hjW := HJ.out.mod HM.out (fun k hk hs h => h.elim (HSB.out k hs hk) (fun h => by omega))
        obtain ⟨pp', cp', nr', pr', cr', hbj, -, -⟩ := id hjW.ex
        have k8 := cell_of hbj 8
        have z8 := free_of hbj 8
        simp only [List.getElem?_toArray, List.getElem?_cons_zero, List.getElem?_cons_succ] at k8
        have ms : Mod (· = jb) wr (wr.setCell ⟨jb, 8, none⟩ (.bool true)) := (Mod.refl _ _).setCell _ _ (fun _ => rfl)
        have HE := Lib.hid (HPOST.out (.returned (.int .i64 13)) (wr.setCell ⟨jb, 8, none⟩ (.bool true)) ⟨by rw [HLAY.out]; rfl, by rw [HLAY.out]; simpa using hjW.downs, by rw [HLAY.out]; exact HDK.out.mod ms (fun k _ h e => by rw [e] at h; exact h.elim hjB (fun h => by omega)), (HM.out.mono (fun k hk h => h.elim .inl (fun h => by omega))).trans ms (fun k _ e => .inr e)⟩)
        clear ms hbj hjW
        go_wp2_with fail
        exact HE.out
end Go.Proofs.YtjilbnpehgigjaaGreat

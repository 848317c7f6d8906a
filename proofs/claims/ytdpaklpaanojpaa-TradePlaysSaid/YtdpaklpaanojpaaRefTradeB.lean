/- The reference's desk: Put. -/
import Derived.Test.YtdpaklpaanojpaaRefTrade
import Derived.Test.YtdpaklpaanojpaaTailB
import Derived.Test.YtdpaklpaanojpaaLawTradeC
import Derived.Test.YtdpaklpaanojpaaEqT
import Derived.Deep.Cut
import Derived.Deep.QuietTactic
import Derived.BigQuiet
namespace Go.Proofs.Ytdpaklpaanojpaa
open Go.RowKit

def tvals (l : List Said) : List Value := l.flatMap (fun y => y.t.vals)
theorem tvals_trades (l : List Said) : tvals l = trades (l.map (·.t)) := by simp [tvals, trades, List.flatMap_map]
theorem refFin {w w7 : World} {x n y : Nat} {S S1 S2 A B : Nat → Prop} {p c a : Int} {l : List Said} {who : Int} {t : T7} {u1 u2 v1 v2 : Value} (h : IsRefT w x S p c a l) (hn : l.length = n) (ho : w.heap[x]? = some (.cells #[.int .i64 p, .int .i64 c, .int .i64 a, v1, v2] 45 (0, 0)))
    (h12 : (∀ j, S1 j → j < w.heap.size ∧ S j ∧ ¬ S2 j) ∧ (∀ j, S2 j → j < w.heap.size ∧ S j)) (hM : Mod S w w7) (ho7 : w7.heap[x]? = some (.cells #[.int .i64 p, .int .i64 c, .int .i64 a, v1, v2] 45 (0, 0)))
    (hv1 : IsVec A w7 3 1 u1 (n + 1) (l.map (fun y => Value.int .i64 y.who) ++ [.int .i64 who])) (hA : ∀ j, A j → (S1 j ∨ w.heap.size ≤ j) ∧ j < y)
    (hv2 : IsVec B w7 31 7 u2 (n + 1) (tvals l ++ t.vals)) (hB : ∀ j, B j → (S2 j ∨ y ≤ j) ∧ j < w7.heap.size) (hy : w.heap.size ≤ y) (hy7 : y ≤ w7.heap.size) :
    (∃ S', IsRefT ((w7.setCell ⟨x, 3, none⟩ u1).setCell ⟨x, 4, none⟩ u2) x S' p c a (l ++ [⟨who, t⟩]) ∧ ∀ k, S' k → S k ∨ w.heap.size ≤ k) ∧ Mod (fun k => k = x ∨ S k) w ((w7.setCell ⟨x, 3, none⟩ u1).setCell ⟨x, 4, none⟩ u2) := by
  have hx := heap_lt ho
  have hnb := h.nb
  have m8 : Mod (· = x) w7 (w7.setCell ⟨x, 3, none⟩ u1) := (Mod.refl _ _).setCell _ _ (fun _ => rfl)
  have m9 : Mod (· = x) w7 ((w7.setCell ⟨x, 3, none⟩ u1).setCell ⟨x, 4, none⟩ u2) := m8.setCell _ _ (fun _ => rfl)
  have hAx : ∀ j, A j → j ≠ x := fun j hj e => by
    rcases (hA j hj).1 with h1 | h1
    · exact hnb (e ▸ (h12.1 j h1).2.1)
    · omega
  have hBx : ∀ j, B j → j ≠ x := fun j hj e => by
    rcases (hB j hj).1 with h1 | h1
    · exact hnb (e ▸ (h12.2 j h1).2)
    · omega
  have hl : (l ++ [(⟨who, t⟩ : Said)]).length = n + 1 := by simp [hn]
  refine ⟨⟨fun k => A k ∨ B k, ⟨⟨A, B, u1, u2, ?_, ?_, ?_, ?_, fun k hk => .inr hk⟩, ?_, ?_⟩, ?_⟩, ?_⟩
  · exact heap_setCell_same (heap_setCell_same ho7 _) _
  · rw [hl, List.map_append]
    exact hv1.mod m9 (fun j _ hj => hAx j hj)
  · rw [hl, List.flatMap_append]
    have hv := hv2.mod m9 (fun j _ hj => hBx j hj)
    simpa [tvals] using hv
  · intro k hk
    refine ⟨.inl hk, fun hb => ?_⟩
    have h1 := hA k hk
    have h2 := hB k hb
    rcases h1.1 with e | e
    · rcases h2.1 with e2 | e2
      · exact (h12.1 k e).2.2 e2
      · have := (h12.1 k e).1; omega
    · rcases h2.1 with e2 | e2
      · have := (h12.2 k e2).1; omega
      · omega
  · rintro (h1 | h1)
    · exact hAx x h1 rfl
    · exact hBx x h1 rfl
  · intro k hk
    have hs : ((w7.setCell ⟨x, 3, none⟩ u1).setCell ⟨x, 4, none⟩ u2).heap.size = w7.heap.size := by simp
    rw [hs]
    rcases hk with h1 | h1
    · have := (hA k h1).2; omega
    · exact (hB k h1).2
  · intro k hk
    rcases hk with h1 | h1
    · exact (hA k h1).1.elim (fun e => .inl (h12.1 k e).2.1) .inr
    · exact (hB k h1).1.elim (fun e => .inl (h12.2 k e).2) (fun e => .inr (by omega))
  · exact (hM.mono (T := fun k => k = x ∨ S k) (fun _ _ h => .inr h)).trans m9 (fun _ _ h => .inl h)
set_option maxRecDepth 100000 in
set_option maxHeartbeats 8000000 in
theorem refPut (x : Nat) (S : Nat → Prop) (p c a : Int) (l : List Said) (who : Int) (t : T7) (w : World) (h : IsRefT w x S p c a l) (hl : l.length ≤ 400) :
    Calls Try.prog 16 #[.pointer (some ⟨x, 0, none⟩), .int .i64 who, t.val] w fun e w' => e = .returned (.int .i64 (putR p c a l who t).2) ∧ (∃ S', IsRefT w' x S' p c a (putR p c a l who t).1 ∧ ∀ k, S' k → S k ∨ w.heap.size ≤ k) ∧ Mod (fun k => k = x ∨ S k) w w' := by
  obtain ⟨R, hR⟩ : ∃ R, putR p c a l who t = R := ⟨_, rfl⟩
  rw [hR]
  have HR := Lib.hid hR
  clear hR
  have HN := Lib.hid h
  obtain ⟨t1, t2, t3, t4, t5, t6, t7⟩ := t
  obtain ⟨S1, S2, v1, v2, h1, h2, h3, h4, h5⟩ := h.ex
  have hxlt := heap_lt h1
  obtain ⟨n, hn⟩ : ∃ n, l.length = n := ⟨_, rfl⟩
  rw [hn] at hl h2 h3
  have HLN := Lib.hid hn
  clear hn
  obtain ⟨pw, cw, rfl⟩ := h2.form
  obtain ⟨pl, cl, rfl⟩ := h3.form
  have ha : Mod nil w (w.alloc (.cells #[.int .i64 t1, .int .i64 t2, .int .i64 t3, .int .i64 t4, .int .i64 t5, .int .i64 t6, .int .i64 t7] 31)) := (Mod.refl nil w).alloc _
  have ht : (w.alloc (.cells #[.int .i64 t1, .int .i64 t2, .int .i64 t3, .int .i64 t4, .int .i64 t5, .int .i64 t6, .int .i64 t7] 31)).heap[w.heap.size]? = some (.cells #[.int .i64 t1, .int .i64 t2, .int .i64 t3, .int .i64 t4, .int .i64 t5, .int .i64 t6, .int .i64 t7] 31 (0, 0)) := heap_alloc_new _ _
  have HA := Lib.hid ha
  have HT := Lib.hid ht
  have HO := Lib.hid h1
  have H2 := Lib.hid h2
  have H3 := Lib.hid h3
  have H4 := Lib.hid h4
  have H5 := Lib.hid h5
  clear ha ht h h1 h2 h3 h4 h5
  simp only [T7.val]
  go_enter Try.func16, Try.ntmps16
  go_upto_region 1 with (fail)
  generalize w.alloc (.cells #[.int .i64 t1, .int .i64 t2, .int .i64 t3, .int .i64 t4, .int .i64 t5, .int .i64 t6, .int .i64 t7] 31) = w1 at HA HT ⊢
  obtain ⟨g, hg⟩ : ∃ g, w.heap.size = g := ⟨_, rfl⟩
  rw [hg] at HT ⊢
  have HG := Lib.hid hg
  clear hg
  have hxg : x ≠ g := by have := HG.out; omega
  have HXG := Lib.hid hxg
  clear hxg
  have d0 : w1.cell? ⟨x, 0, none⟩ = some (.int .i64 p) := cell_of (HA.out.keep HO.out) 0
  have d1 : w1.cell? ⟨x, 1, none⟩ = some (.int .i64 c) := cell_of (HA.out.keep HO.out) 1
  have d2 : w1.cell? ⟨x, 2, none⟩ = some (.int .i64 a) := cell_of (HA.out.keep HO.out) 2
  have q1 : w1.cell? ⟨g, 0, none⟩ = some (.int .i64 t1) := cell_of HT.out 0
  have q2 : w1.cell? ⟨g, 1, none⟩ = some (.int .i64 t2) := cell_of HT.out 1
  have q3 : w1.cell? ⟨g, 2, none⟩ = some (.int .i64 t3) := cell_of HT.out 2
  have q4 : w1.cell? ⟨g, 3, none⟩ = some (.int .i64 t4) := cell_of HT.out 3
  have q5 : w1.cell? ⟨g, 4, none⟩ = some (.int .i64 t5) := cell_of HT.out 4
  have q6 : w1.cell? ⟨g, 5, none⟩ = some (.int .i64 t6) := cell_of HT.out 5
  have q7 : w1.cell? ⟨g, 6, none⟩ = some (.int .i64 t7) := cell_of HT.out 6
  obtain ⟨r0, hr0⟩ : ∃ r, mayT ⟨t1, t2, t3, t4, t5, t6, t7⟩ p c a = r := ⟨_, rfl⟩
  have HR0 := Lib.hid hr0
  clear hr0
  go_region_held3 (fun w' => w'.cell? ⟨x, 0, none⟩ = some (.int .i64 p) ∧ w'.cell? ⟨x, 1, none⟩ = some (.int .i64 c) ∧ w'.cell? ⟨x, 2, none⟩ = some (.int .i64 a) ∧ w'.cell? ⟨g, 0, none⟩ = some (.int .i64 t1) ∧ w'.cell? ⟨g, 1, none⟩ = some (.int .i64 t2) ∧ w'.cell? ⟨g, 2, none⟩ = some (.int .i64 t3) ∧ w'.cell? ⟨g, 3, none⟩ = some (.int .i64 t4) ∧ w'.cell? ⟨g, 4, none⟩ = some (.int .i64 t5) ∧ w'.cell? ⟨g, 5, none⟩ = some (.int .i64 t6) ∧ w'.cell? ⟨g, 6, none⟩ = some (.int .i64 t7)) (first | exact ⟨d0, d1, d2, q1, q2, q3, q4, q5, q6, q7⟩) (first
    | (go_at_call 15; refine (refMay ⟨t1, t2, t3, t4, t5, t6, t7⟩ p c a _).mono ?_; rw [HR0.out]; rintro e w2 ⟨rfl, hm2⟩; replace d0 := cell_kept (w := w1.drew) d0 hm2 (World.block_lt_of_cell? _ _ d0) (not_nil _); replace d1 := cell_kept (w := w1.drew) d1 hm2 (World.block_lt_of_cell? _ _ d1) (not_nil _); replace d2 := cell_kept (w := w1.drew) d2 hm2 (World.block_lt_of_cell? _ _ d2) (not_nil _); replace q1 := cell_kept (w := w1.drew) q1 hm2 (World.block_lt_of_cell? _ _ q1) (not_nil _); replace q2 := cell_kept (w := w1.drew) q2 hm2 (World.block_lt_of_cell? _ _ q2) (not_nil _); replace q3 := cell_kept (w := w1.drew) q3 hm2 (World.block_lt_of_cell? _ _ q3) (not_nil _); replace q4 := cell_kept (w := w1.drew) q4 hm2 (World.block_lt_of_cell? _ _ q4) (not_nil _); replace q5 := cell_kept (w := w1.drew) q5 hm2 (World.block_lt_of_cell? _ _ q5) (not_nil _); replace q6 := cell_kept (w := w1.drew) q6 hm2 (World.block_lt_of_cell? _ _ q6) (not_nil _); replace q7 := cell_kept (w := w1.drew) q7 hm2 (World.block_lt_of_cell? _ _ q7) (not_nil _)))
  have hm12 : Mod nil w1 w2 := (Mod.refl nil w1).drew.thenNil hm2
  have HM2 := Lib.hid (HA.out.thenNil hm12)
  have HT2 := Lib.hid (hm12.keep HT.out)
  have HSAME : Hid (∀ w', Mod nil w w' → ∃ S', IsRefT w' x S' p c a l ∧ ∀ k, S' k → S k ∨ g ≤ k) := Lib.hid (fun w' m => ⟨S, HN.out.modNil m, fun k hk => .inl hk⟩)
  clear hm2 hm12 HA HT d0 d1 d2 q1 q4 q5 q6 q7
  by_cases hr0 : r0 = 0
  · subst hr0
    by_cases hw1 : who = t2 ∨ who = t3
    · go_upto_region 4 with (fail)
      go_cut [35] from 94 (fun s35 wx => s35 = .bool false ∧ w2 = wx)
      case first =>
        rcases (show who = t2 ∨ (who ≠ t2 ∧ who = t3) by omega) with hw | ⟨hw, hw'⟩
        · have hb : (who != t2) = false := by simpa using hw
          clear hw hw1
          go_wp2_with fail
          go_meet
          exact ⟨rfl, rfl⟩
        · have hb : (who != t2) = true := by simpa using hw
          have hb2 : (who != t3) = false := by simpa using hw'
          clear hw hw' hw1
          go_wp2_with fail
          go_meet
          exact ⟨rfl, rfl⟩
      case rest =>
      obtain ⟨rfl, hwc⟩ := hcut
      subst hwc
      have HWB : Hid (¬ (who ≠ t2 ∧ who ≠ t3)) := Lib.hid (by omega)
      clear hw1 q2 q3
      go_wp2_with fail
      go_loopw [8] (fun v wr => ∃ k : Nat, k ≤ n ∧ v = .int .i64 k ∧ Mod nil w2 wr ∧ Hid ((l.take k).any (fun x : Said => decide (x.who = who) && decide (x.t.id = t1)) = false)) (fun v _ => n - (intOf v).toNat)
      case atStart => exact ⟨0, by omega, rfl, Mod.refl _ _, Lib.hid (by simp)⟩
      case round =>
        obtain ⟨k, hk, rfl, hmod, HTK⟩ := hrel
        have HMOD := Lib.hid hmod
        have HMW := Lib.hid (HM2.out.thenNil hmod)
        have c3 : wr.cell? ⟨x, 3, none⟩ = some (.slice pw n cw) := cell_of (HMW.out.keep HO.out) 3
        have c4 : wr.cell? ⟨x, 4, none⟩ = some (.slice pl n cl) := cell_of (HMW.out.keep HO.out) 4
        have q1 : wr.cell? ⟨g, 0, none⟩ = some (.int .i64 t1) := cell_of (hmod.keep HT2.out) 0
        by_cases hlt : k < n
        · have hkl : k < l.length := by have := HLN.out; omega
          obtain ⟨y, hy⟩ : ∃ y, l[k] = y := ⟨_, rfl⟩
          have hvc := (H2.out.modNil HMW.out).cells
          obtain ⟨pw', cw', hv, hcw⟩ := hvc
          obtain ⟨bw, ow, hpw, _, hbw, hwk⟩ := hcw k (by simpa using hkl)
          simp only [Value.slice.injEq] at hv
          obtain ⟨rfl, -, rfl⟩ := hv
          subst hpw
          have e1 : wr.cell? ⟨bw, ow + k, none⟩ = some (.int .i64 y.who) := by rw [hwk, ← hy]; simp [hkl]
          have hlc := (H3.out.modNil HMW.out).cells
          obtain ⟨gl, ol, ⟨c', hv⟩, _, hgl, e2, _⟩ := trade_cells (l := l.map (·.t)) (by rw [List.length_map, HLN.out, ← tvals_trades]; exact hlc) k (by simpa using hkl)
          simp only [Value.slice.injEq] at hv
          obtain ⟨rfl, -, rfl⟩ := hv
          rw [List.getElem_map, hy] at e2
          have htk : (l.take (k + 1)).any (fun x : Said => decide (x.who = who) && decide (x.t.id = t1)) = ((l.take k).any (fun x : Said => decide (x.who = who) && decide (x.t.id = t1)) || (fun x : Said => decide (x.who = who) && decide (x.t.id = t1)) l[k]) := any_take_succ l k hkl _
          have hany : (fun x : Said => decide (x.who = who) && decide (x.t.id = t1)) l[k] = true → l.any (fun x : Said => decide (x.who = who) && decide (x.t.id = t1)) = true := fun h => List.any_eq_true.2 ⟨_, List.getElem_mem hkl, h⟩
          rw [hy] at htk hany
          have HTS := Lib.hid htk
          have HAN := Lib.hid hany
          clear htk hany hy hlc hcw hwk hmod
          obtain ⟨yw, ⟨y1, y2, y3, y4, y5, y6, y7⟩⟩ := y
          simp only at e1 e2
          by_cases h1 : yw = who
          · by_cases h2 : y1 = t1
            · have hb1 : (yw == who) = true := by simpa using h1
              have hb2 : (y1 == t1) = true := by simpa using h2
              have H12 := Lib.hid (And.intro h1 h2)
              clear h1 h2
              go_upto_region 9 with (fail)
              go_quiet (fail)
              go_wp2_with fail
              go_ret
              have hR := HR.out
              rw [putR, if_neg (by rw [HR0.out]; simp), if_neg HWB.out, if_pos (by exact HAN.out (by simp [H12.out.1, H12.out.2]))] at hR
              rw [← hR]
              exact ⟨rfl, HG.out ▸ HSAME.out _ (HMW.out.drewN _), (HMW.out.drewN _).ofNil⟩
            · have hb1 : (yw == who) = true := by simpa using h1
              have hb2 : (y1 == t1) = false := by simpa using h2
              have H12 := Lib.hid h2
              clear h1 h2
              go_upto_region 9 with (fail)
              go_quiet (fail)
              go_wp2_with fail
              exact ⟨⟨k + 1, by omega, by go_num, HMOD.out.drewN _, Lib.hid (by rw [HTS.out, HTK.out]; simp [H12.out])⟩, by simp [intOf]; omega⟩
          · have hb1 : (yw == who) = false := by simpa using h1
            have H12 := Lib.hid h1
            clear h1
            go_upto_region 9 with (fail)
            go_quiet (fail)
            go_wp2_with fail
            exact ⟨⟨k + 1, by omega, by go_num, HMOD.out.drewN _, Lib.hid (by rw [HTS.out, HTK.out]; simp [H12.out])⟩, by simp [intOf]; omega⟩
        · obtain rfl : k = n := by omega
          have HANY : Hid (l.any (fun x : Said => decide (x.who = who) && decide (x.t.id = t1)) = false) := Lib.hid (by have h := HTK.out; rwa [← HLN.out, List.take_length] at h)
          clear HTK hk hlt
          rcases (show k = 400 ∨ k < 400 by omega) with h4 | h4
          · subst h4
            go_wp2_with fail
            go_ret
            have hR := HR.out
            rw [putR, if_neg (by rw [HR0.out]; simp), if_neg HWB.out, HANY.out, if_neg (by simp), if_pos (by rw [HLN.out]; omega)] at hR
            rw [← hR]
            exact ⟨rfl, HG.out ▸ HSAME.out _ HMW.out, HMW.out.ofNil⟩
          · obtain ⟨n, hkn⟩ : ∃ n, n = k := ⟨_, rfl⟩
            subst hkn
            have q2 : wr.cell? ⟨g, 1, none⟩ = some (.int .i64 t2) := cell_of (hmod.keep HT2.out) 1
            have q3 : wr.cell? ⟨g, 2, none⟩ = some (.int .i64 t3) := cell_of (hmod.keep HT2.out) 2
            have q4 : wr.cell? ⟨g, 3, none⟩ = some (.int .i64 t4) := cell_of (hmod.keep HT2.out) 3
            have q5 : wr.cell? ⟨g, 4, none⟩ = some (.int .i64 t5) := cell_of (hmod.keep HT2.out) 4
            have q6 : wr.cell? ⟨g, 5, none⟩ = some (.int .i64 t6) := cell_of (hmod.keep HT2.out) 5
            have q7 : wr.cell? ⟨g, 6, none⟩ = some (.int .i64 t7) := cell_of (hmod.keep HT2.out) 6
            have HS12 : Hid ((∀ j, S1 j → j < w.heap.size ∧ S j ∧ ¬ S2 j) ∧ (∀ j, S2 j → j < w.heap.size ∧ S j)) := Lib.hid ⟨fun j hj => ⟨HN.out.top j (H4.out j hj).1, H4.out j hj⟩, fun j hj => ⟨HN.out.top j (H5.out j hj), H5.out j hj⟩⟩
            have hNg : ¬ S g := fun hS => by have := HN.out.top g hS; have := HG.out; omega
            have hNx := HN.out.nb
            have hxr : x < wr.heap.size := Nat.lt_of_lt_of_le hxlt HMW.out.size
            have hgr : g < wr.heap.size := heap_lt (hmod.keep HT2.out)
            have HK : Hid (∀ W', Mod S wr W' → W'.cell? ⟨x, 3, none⟩ = some (.slice pw n cw) ∧ W'.cell? ⟨x, 4, none⟩ = some (.slice pl n cl) ∧ W'.cell? ⟨g, 0, none⟩ = some (.int .i64 t1) ∧ W'.cell? ⟨g, 1, none⟩ = some (.int .i64 t2) ∧ W'.cell? ⟨g, 2, none⟩ = some (.int .i64 t3) ∧ W'.cell? ⟨g, 3, none⟩ = some (.int .i64 t4) ∧ W'.cell? ⟨g, 4, none⟩ = some (.int .i64 t5) ∧ W'.cell? ⟨g, 5, none⟩ = some (.int .i64 t6) ∧ W'.cell? ⟨g, 6, none⟩ = some (.int .i64 t7)) := Lib.hid (fun W' hm => ⟨cell_kept c3 hm hxr hNx, cell_kept c4 hm hxr hNx, cell_kept q1 hm hgr hNg, cell_kept q2 hm hgr hNg, cell_kept q3 hm hgr hNg, cell_kept q4 hm hgr hNg, cell_kept q5 hm hgr hNg, cell_kept q6 hm hgr hNg, cell_kept q7 hm hgr hNg⟩)
            have HOB : Hid (∀ W', Mod S wr W' → W'.heap[x]? = some (.cells #[.int .i64 p, .int .i64 c, .int .i64 a, .slice pw n cw, .slice pl n cl] 45 (0, 0))) := Lib.hid (fun W' hm => (hm.block x hxr hNx).trans (HMW.out.keep HO.out))
            have hv1o := H2.out.modNil HMW.out
            have hv2o := H3.out.modNil HMW.out
            obtain ⟨i0, hi0, hi1, hi2, hi3⟩ := info_parts info_int3
            obtain ⟨i1, hj0, hj1, hj2, hj3⟩ := info_parts info_trade
            clear hmod hNx hNg hxr hgr
            go_upto_region 13 with (fail)
            refine region_till (fun w' => w'.cell? ⟨x, 3, none⟩ = some (.slice pw n cw) ∧ w'.cell? ⟨x, 4, none⟩ = some (.slice pl n cl) ∧ w'.cell? ⟨g, 0, none⟩ = some (.int .i64 t1) ∧ w'.cell? ⟨g, 1, none⟩ = some (.int .i64 t2) ∧ w'.cell? ⟨g, 2, none⟩ = some (.int .i64 t3) ∧ w'.cell? ⟨g, 3, none⟩ = some (.int .i64 t4) ∧ w'.cell? ⟨g, 4, none⟩ = some (.int .i64 t5) ∧ w'.cell? ⟨g, 5, none⟩ = some (.int .i64 t6) ∧ w'.cell? ⟨g, 6, none⟩ = some (.int .i64 t7)) 18 (by kernel_rfl) ?_
            refine till_take (i := 0) (v := ?_) rfl (by kernel_rfl) (by kernel_rfl) (by kernel_rfl) (by kernel_rfl) (by kernel_rfl) (by kernel_rfl) (fun _ _ _ h => h) (Or.inl ⟨by rfl, ?_⟩) (⟨c3, c4, q1, q2, q3, q4, q5, q6, q7⟩) ?_
            rotate_left
            · intro w hSw; (try dsimp only at hSw); (first | (go_simp; done) | (go_simp; with_reducible rfl))
            (try simp only [Act.put]); (try simp only [List.setIfInBounds_toArray])
            (try simp only [List.set_cons_succ, List.set_cons_zero])
            refine till_take (i := 2) (v := ?_) rfl (by kernel_rfl) (by kernel_rfl) (by kernel_rfl) (by kernel_rfl) (by kernel_rfl) (by kernel_rfl) (fun _ _ _ h => h) (Or.inl ⟨by rfl, ?_⟩) (⟨c3, c4, q1, q2, q3, q4, q5, q6, q7⟩) ?_
            rotate_left
            · intro w hSw; (try dsimp only at hSw); (first | (go_simp; done) | (go_simp; with_reducible rfl))
            (try simp only [Act.put]); (try simp only [List.setIfInBounds_toArray])
            (try simp only [List.set_cons_succ, List.set_cons_zero])
            refine till_take (i := 3) (v := ?_) rfl (by kernel_rfl) (by kernel_rfl) (by kernel_rfl) (by kernel_rfl) (by kernel_rfl) (by kernel_rfl) (fun _ _ _ h => h) (Or.inl ⟨by rfl, ?_⟩) (⟨c3, c4, q1, q2, q3, q4, q5, q6, q7⟩) ?_
            rotate_left
            · intro w hSw; (try dsimp only at hSw); (first | (go_simp; done) | (go_simp; with_reducible rfl))
            (try simp only [Act.put]); (try simp only [List.setIfInBounds_toArray])
            (try simp only [List.set_cons_succ, List.set_cons_zero])
            refine till_take (i := 4) (v := ?_) rfl (by kernel_rfl) (by kernel_rfl) (by kernel_rfl) (by kernel_rfl) (by kernel_rfl) (by kernel_rfl) (fun _ _ _ h => h) (Or.inl ⟨by rfl, ?_⟩) (⟨c3, c4, q1, q2, q3, q4, q5, q6, q7⟩) ?_
            rotate_left
            · intro w hSw; (try dsimp only at hSw); (first | (go_simp; done) | (go_simp; with_reducible rfl))
            (try simp only [Act.put]); (try simp only [List.setIfInBounds_toArray])
            (try simp only [List.set_cons_succ, List.set_cons_zero])
            refine till_take (i := 5) (v := ?_) rfl (by kernel_rfl) (by kernel_rfl) (by kernel_rfl) (by kernel_rfl) (by kernel_rfl) (by kernel_rfl) (fun _ _ _ h => h) (Or.inl ⟨by rfl, ?_⟩) (⟨c3, c4, q1, q2, q3, q4, q5, q6, q7⟩) ?_
            rotate_left
            · intro w hSw; (try dsimp only at hSw); (first | (go_simp; done) | (go_simp; with_reducible rfl))
            (try simp only [Act.put]); (try simp only [List.setIfInBounds_toArray])
            (try simp only [List.set_cons_succ, List.set_cons_zero])
            refine till_take (i := 6) (v := ?_) rfl (by kernel_rfl) (by kernel_rfl) (by kernel_rfl) (by kernel_rfl) (by kernel_rfl) (by kernel_rfl) (fun _ _ _ h => h) (Or.inl ⟨by rfl, ?_⟩) (⟨c3, c4, q1, q2, q3, q4, q5, q6, q7⟩) ?_
            rotate_left
            · intro w hSw; (try dsimp only at hSw); (first | (go_simp; done) | (go_simp; with_reducible rfl))
            (try simp only [Act.put]); (try simp only [List.setIfInBounds_toArray])
            (try simp only [List.set_cons_succ, List.set_cons_zero])
            refine till_free (i := 9) (v := ?_) rfl (by kernel_rfl) (by kernel_rfl) (by kernel_rfl) (by kernel_rfl) (fun _ _ _ h => h) (Or.inl ⟨by rfl, ?_⟩) (fun _ => ⟨c3, c4, q1, q2, q3, q4, q5, q6, q7⟩) ?_
            rotate_left
            · intro w _; (first | (go_simp; done) | (go_simp; with_reducible rfl))
            (try simp only [Act.put]); (try simp only [List.setIfInBounds_toArray])
            (try simp only [List.set_cons_succ, List.set_cons_zero])
            refine till_free (i := 10) (v := ?_) rfl (by kernel_rfl) (by kernel_rfl) (by kernel_rfl) (by kernel_rfl) (fun _ _ _ h => h) (Or.inl ⟨by rfl, ?_⟩) (fun _ => ⟨c3, c4, q1, q2, q3, q4, q5, q6, q7⟩) ?_
            rotate_left
            · intro w _; (first | (go_simp; done) | (go_simp; with_reducible rfl))
            (try simp only [Act.put]); (try simp only [List.setIfInBounds_toArray])
            (try simp only [List.set_cons_succ, List.set_cons_zero])
            refine till_free (i := 11) (v := ?_) rfl (by kernel_rfl) (by kernel_rfl) (by kernel_rfl) (by kernel_rfl) (fun _ _ _ h => h) (Or.inl ⟨by rfl, ?_⟩) (fun _ => ⟨c3, c4, q1, q2, q3, q4, q5, q6, q7⟩) ?_
            rotate_left
            · intro w _; (first | (go_simp; done) | (go_simp; with_reducible rfl))
            (try simp only [Act.put]); (try simp only [List.setIfInBounds_toArray])
            (try simp only [List.set_cons_succ, List.set_cons_zero])
            refine till_take (i := 12) (v := ?_) rfl (by kernel_rfl) (by kernel_rfl) (by kernel_rfl) (by kernel_rfl) (by kernel_rfl) (by kernel_rfl) (fun _ _ _ h => h) (Or.inl ⟨by rfl, ?_⟩) (⟨c3, c4, q1, q2, q3, q4, q5, q6, q7⟩) ?_
            rotate_left
            · intro w hSw; (try dsimp only at hSw); (first | (go_simp; done) | (go_simp; with_reducible rfl))
            (try simp only [Act.put]); (try simp only [List.setIfInBounds_toArray])
            (try simp only [List.set_cons_succ, List.set_cons_zero])
            refine till_free (i := 1) (v := ?_) rfl (by kernel_rfl) (by kernel_rfl) (by kernel_rfl) (by kernel_rfl) (fun _ _ _ h => h) (Or.inl ⟨by rfl, ?_⟩) (fun _ => ⟨c3, c4, q1, q2, q3, q4, q5, q6, q7⟩) ?_
            rotate_left
            · intro w _; (first | (go_simp; done) | (go_simp; with_reducible rfl))
            (try simp only [Act.put]); (try simp only [List.setIfInBounds_toArray])
            (try simp only [List.set_cons_succ, List.set_cons_zero])
            refine till_ready (rs := [7, 13]) (by kernel_rfl) (by simp) ?_
            refine till_cons (i := 7) rfl (fun K hK => ?_) ?_
            · (try dsimp (config := { proj := false }) only [List.getElem_toArray, List.getElem_cons_succ, List.getElem_cons_zero])
              go_simp
              refine hK.out _ _ (fun _ => HK.out _ (((Mod.refl S wr).alloc (.cells #[.int .i64 who] 3)).drew)) ?_
              clear hK K
              (try simp only [Act.put, List.setIfInBounds_toArray, List.set_cons_zero, List.set_cons_succ])
              refine till_ready (rs := [8, 13]) (by kernel_rfl) (by simp) ?_
              refine till_cons (i := 8) rfl (fun K hK => ?_) ?_
              · (try dsimp (config := { proj := false }) only [List.getElem_toArray, List.getElem_cons_succ, List.getElem_cons_zero])
                have hM := ((Mod.refl S wr).alloc (.cells #[.int .i64 who] 3)).drew
                have hv1 := ((hv1o).modNil ((Mod.refl nil _).alloc (.cells #[.int .i64 who] 3))).modNil (Mod.refl nil _).drew
                have hv2 := ((hv2o).modNil ((Mod.refl nil _).alloc (.cells #[.int .i64 who] 3))).modNil (Mod.refl nil _).drew
                have hB := ((cells_one_at wr 3 (.int .i64 who) _ rfl)).modNil (Mod.refl nil _).drew
                refine step_append_vec (S := S1) rfl _ _ _ rfl 3 i0 (.int .i64 0) 1 8 Try.underlying35 hi0 hi1 hi2 hi3 rfl (by omega) (.slice pw n cw) n (l.map (fun y => Value.int .i64 y.who)) rfl hv1 _ 1 [.int .i64 who] rfl hB rfl (by intro u hu; simp at hu; subst hu; rfl) (by unfold maxLen; omega) (by omega) ?_
                intro v6 w6 hv6 hm6
                obtain ⟨p6, c6, rfl⟩ := hv6.form
                have hM6 := hM.trans (hm6.mono (T := S) (fun j _ h => (H4.out j h).1)) (fun j _ h => h)
                have hv26 := hv2.mod hm6 (fun j _ hj hj1 => (H4.out j hj1).2 hj)
                have hs6 := hm6.size
                refine hK.out _ _ (fun _ => HK.out _ hM6) ?_
                clear hK K
                (try simp only [Act.put, List.setIfInBounds_toArray, List.set_cons_zero, List.set_cons_succ])
                have hv6t := hv6.trim
                have hA : ∀ j, ((S1 j ∨ (wr.alloc (.cells #[.int .i64 who] 3)).drew.heap.size ≤ j) ∧ j < w6.heap.size) → (S1 j ∨ w.heap.size ≤ j) ∧ j < w6.heap.size := fun j hj => ⟨hj.1.elim .inl (fun h => .inr (by have := HMW.out.size; have := hM.size; omega)), hj.2⟩
                have hAB : ∀ j, ((S1 j ∨ (wr.alloc (.cells #[.int .i64 who] 3)).drew.heap.size ≤ j) ∧ j < w6.heap.size) → ¬ S2 j := fun j hj h2 => hj.1.elim (fun h => (H4.out j h).2 h2) (fun h => by have := (HS12.out.2 j h2).1; have := HMW.out.size; have := hM.size; omega)
                refine till_ready (rs := [13]) (by kernel_rfl) (by simp) ?_
                refine till_cons (i := 13) rfl (fun K hK => ?_) till_nil
                (try dsimp (config := { proj := false }) only [List.getElem_toArray, List.getElem_cons_succ, List.getElem_cons_zero])
                have hqq := HK.out _ (hM6)
                have k1 := hqq.2.2.1
                have k2 := hqq.2.2.2.1
                have k3 := hqq.2.2.2.2.1
                have k4 := hqq.2.2.2.2.2.1
                have k5 := hqq.2.2.2.2.2.2.1
                have k6 := hqq.2.2.2.2.2.2.2.1
                have k7 := hqq.2.2.2.2.2.2.2.2
                clear hqq
                go_simp
                refine hK.out _ _ (fun _ => HK.out _ (hM6)) ?_
                clear hK K k1 k2 k3 k4 k5 k6 k7
                (try simp only [Act.put, List.setIfInBounds_toArray, List.set_cons_zero, List.set_cons_succ])
                refine till_ready (rs := [14]) (by kernel_rfl) (by simp) ?_
                refine till_cons (i := 14) rfl (fun K hK => ?_) till_nil
                (try dsimp (config := { proj := false }) only [List.getElem_toArray, List.getElem_cons_succ, List.getElem_cons_zero])
                go_simp
                refine hK.out _ _ (fun _ => HK.out _ (hM6.alloc _)) ?_
                clear hK K
                (try simp only [Act.put, List.setIfInBounds_toArray, List.set_cons_zero, List.set_cons_succ])
                have hT := cells_at w6 31 [.int .i64 t1, .int .i64 t2, .int .i64 t3, .int .i64 t4, .int .i64 t5, .int .i64 t6, .int .i64 t7] 1 1 _ rfl
                have hM7 := hM6.alloc (.cells #[.int .i64 t1, .int .i64 t2, .int .i64 t3, .int .i64 t4, .int .i64 t5, .int .i64 t6, .int .i64 t7] 31)
                replace hv6t := hv6t.modNil ((Mod.refl nil w6).alloc (.cells #[.int .i64 t1, .int .i64 t2, .int .i64 t3, .int .i64 t4, .int .i64 t5, .int .i64 t6, .int .i64 t7] 31))
                replace hv26 := hv26.modNil ((Mod.refl nil w6).alloc (.cells #[.int .i64 t1, .int .i64 t2, .int .i64 t3, .int .i64 t4, .int .i64 t5, .int .i64 t6, .int .i64 t7] 31))
                have hs66 : (w6.alloc (.cells #[.int .i64 t1, .int .i64 t2, .int .i64 t3, .int .i64 t4, .int .i64 t5, .int .i64 t6, .int .i64 t7] 31)).heap.size = w6.heap.size + 1 := by simp
                refine till_ready (rs := [15]) (by kernel_rfl) (by simp) ?_
                refine till_cons (i := 15) rfl (fun K hK => ?_) till_nil
                (try dsimp (config := { proj := false }) only [List.getElem_toArray, List.getElem_cons_succ, List.getElem_cons_zero])
                refine step_append_vec (S := S2) rfl _ _ _ rfl 31 i1 (T7.val ⟨0, 0, 0, 0, 0, 0, 0⟩) 7 56 Try.underlying28 hj0 hj1 hj2 hj3 rfl (by omega) (.slice pl n cl) n (tvals l) rfl hv26 _ 1 [.int .i64 t1, .int .i64 t2, .int .i64 t3, .int .i64 t4, .int .i64 t5, .int .i64 t6, .int .i64 t7] rfl hT rfl (fun u hu => trade_one ⟨t1, t2, t3, t4, t5, t6, t7⟩ u hu) (by unfold maxLen; omega) (by omega) ?_
                intro v7 w7 hv7 hm7
                obtain ⟨p7, c7, rfl⟩ := hv7.form
                have hM8 := hM7.trans (hm7.mono (T := S) (fun j _ h => H5.out j h)) (fun j _ h => h)
                have hv67 := hv6t.mod hm7 (fun j _ hj hj2 => hAB j hj hj2)
                have hs7 := hm7.size
                refine hK.out _ _ (fun _ => HK.out _ hM8) ?_
                clear hK K
                (try simp only [Act.put, List.setIfInBounds_toArray, List.set_cons_zero, List.set_cons_succ])
                refine till_ready (rs := [16]) (by kernel_rfl) (by simp) ?_
                refine till_cons (i := 16) rfl (fun K hK => ?_) till_nil
                (try dsimp (config := { proj := false }) only [List.getElem_toArray, List.getElem_cons_succ, List.getElem_cons_zero])
                go_simp
                refine hK.out _ _ (fun _ => HK.out _ hM8) ?_
                clear hK K
                (try simp only [Act.put, List.setIfInBounds_toArray, List.set_cons_zero, List.set_cons_succ])
                refine till_ready (rs := [17]) (by kernel_rfl) (by simp) ?_
                refine till_cons (i := 17) rfl (fun K hK => ?_) till_nil
                (try dsimp (config := { proj := false }) only [List.getElem_toArray, List.getElem_cons_succ, List.getElem_cons_zero])
                go_simp
                refine hK.out _ _ (fun _ => HK.out _ hM8) ?_
                clear hK K
                (try simp only [Act.put, List.setIfInBounds_toArray, List.set_cons_zero, List.set_cons_succ])
                have c38 := (HK.out _ hM8).1
                have c48 := (HK.out _ hM8).2.1
                have ho8 := HOB.out _ hM8
                have f38 : w7.frozen? ⟨x, 3, none⟩ = false := free_of ho8 3
                refine till_ready (rs := [18]) (by kernel_rfl) (by simp) ?_
                refine till_cons (i := 18) rfl (fun K hK => ?_) till_nil
                (try dsimp (config := { proj := false }) only [List.getElem_toArray, List.getElem_cons_succ, List.getElem_cons_zero])
                go_simp
                refine hK.out _ _ (fun h => (by simp at h)) ?_
                clear hK K
                (try simp only [Act.put, List.setIfInBounds_toArray, List.set_cons_zero, List.set_cons_succ])
                have ho9 := heap_setCell_same (off := 3) ho8 (.slice p6 (n + 1) c6)
                have c49 : (w7.setCell ⟨x, 3, none⟩ (.slice p6 (n + 1) c6)).cell? ⟨x, 4, none⟩ = some (.slice pl n cl) := cell_of ho9 4
                have f49 : (w7.setCell ⟨x, 3, none⟩ (.slice p6 (n + 1) c6)).frozen? ⟨x, 4, none⟩ = false := free_of ho9 4
                refine till_ready (rs := [19]) (by kernel_rfl) (by simp) ?_
                refine till_cons (i := 19) rfl (fun K hK => ?_) till_nil
                (try dsimp (config := { proj := false }) only [List.getElem_toArray, List.getElem_cons_succ, List.getElem_cons_zero])
                go_simp
                refine hK.out _ _ (fun h => (by simp at h)) ?_
                clear hK K
                (try simp only [Act.put, List.setIfInBounds_toArray, List.set_cons_zero, List.set_cons_succ])
                refine till_ready (rs := [20]) (by kernel_rfl) (by simp) ?_
                refine till_cons (i := 20) rfl (fun K hK => ?_) till_nil
                (try dsimp (config := { proj := false }) only [List.getElem_toArray, List.getElem_cons_succ, List.getElem_cons_zero])
                go_simp
                refine hK.out _ _ (fun h => (by simp at h)) ?_
                clear hK K
                (try simp only [Act.put, List.setIfInBounds_toArray, List.set_cons_zero, List.set_cons_succ])
                refine till_ready (rs := [21]) (by kernel_rfl) (by simp) ?_
                refine till_cons (i := 21) rfl (fun K hK => ?_) till_nil
                (try dsimp (config := { proj := false }) only [List.getElem_toArray, List.getElem_cons_succ, List.getElem_cons_zero])
                go_simp
                refine hK.out _ _ (fun h => (by simp at h)) ?_
                clear hK K
                (try simp only [Act.put, List.setIfInBounds_toArray, List.set_cons_zero, List.set_cons_succ])
                refine till_done (by kernel_rfl) ?_ _
                go_wp2_with fail
                go_ret
                have hR := HR.out
                rw [putR, if_neg (by rw [HR0.out]; simp), if_neg HWB.out, HANY.out, if_neg (by simp), if_neg (by rw [HLN.out]; omega)] at hR
                rw [← hR]
                refine ⟨rfl, ?_⟩
                exact refFin HN.out HLN.out HO.out HS12.out (HMW.out.ofNil.trans hM8 (fun _ _ h => h)) ho8 hv67 hA hv7.trim (fun j hj => ⟨hj.1.elim .inl (fun h => .inr (by omega)), hj.2⟩) (by have := HMW.out.size; have := hM.size; omega) (by have := hM.size; omega)
              refine till_cons (i := 13) rfl (fun K hK => ?_) till_nil
              (try dsimp (config := { proj := false }) only [List.getElem_toArray, List.getElem_cons_succ, List.getElem_cons_zero])
              have hqq := HK.out _ (((Mod.refl S wr).alloc (.cells #[.int .i64 who] 3)).drew)
              have k1 := hqq.2.2.1
              have k2 := hqq.2.2.2.1
              have k3 := hqq.2.2.2.2.1
              have k4 := hqq.2.2.2.2.2.1
              have k5 := hqq.2.2.2.2.2.2.1
              have k6 := hqq.2.2.2.2.2.2.2.1
              have k7 := hqq.2.2.2.2.2.2.2.2
              clear hqq
              go_simp
              refine hK.out _ _ (fun _ => HK.out _ (((Mod.refl S wr).alloc (.cells #[.int .i64 who] 3)).drew)) ?_
              clear hK K k1 k2 k3 k4 k5 k6 k7
              (try simp only [Act.put, List.setIfInBounds_toArray, List.set_cons_zero, List.set_cons_succ])
              refine till_ready (rs := [8, 14]) (by kernel_rfl) (by simp) ?_
              refine till_cons (i := 8) rfl (fun K hK => ?_) ?_
              · (try dsimp (config := { proj := false }) only [List.getElem_toArray, List.getElem_cons_succ, List.getElem_cons_zero])
                have hM := ((Mod.refl S wr).alloc (.cells #[.int .i64 who] 3)).drew
                have hv1 := ((hv1o).modNil ((Mod.refl nil _).alloc (.cells #[.int .i64 who] 3))).modNil (Mod.refl nil _).drew
                have hv2 := ((hv2o).modNil ((Mod.refl nil _).alloc (.cells #[.int .i64 who] 3))).modNil (Mod.refl nil _).drew
                have hB := ((cells_one_at wr 3 (.int .i64 who) _ rfl)).modNil (Mod.refl nil _).drew
                refine step_append_vec (S := S1) rfl _ _ _ rfl 3 i0 (.int .i64 0) 1 8 Try.underlying35 hi0 hi1 hi2 hi3 rfl (by omega) (.slice pw n cw) n (l.map (fun y => Value.int .i64 y.who)) rfl hv1 _ 1 [.int .i64 who] rfl hB rfl (by intro u hu; simp at hu; subst hu; rfl) (by unfold maxLen; omega) (by omega) ?_
                intro v6 w6 hv6 hm6
                obtain ⟨p6, c6, rfl⟩ := hv6.form
                have hM6 := hM.trans (hm6.mono (T := S) (fun j _ h => (H4.out j h).1)) (fun j _ h => h)
                have hv26 := hv2.mod hm6 (fun j _ hj hj1 => (H4.out j hj1).2 hj)
                have hs6 := hm6.size
                refine hK.out _ _ (fun _ => HK.out _ hM6) ?_
                clear hK K
                (try simp only [Act.put, List.setIfInBounds_toArray, List.set_cons_zero, List.set_cons_succ])
                have hv6t := hv6.trim
                have hA : ∀ j, ((S1 j ∨ (wr.alloc (.cells #[.int .i64 who] 3)).drew.heap.size ≤ j) ∧ j < w6.heap.size) → (S1 j ∨ w.heap.size ≤ j) ∧ j < w6.heap.size := fun j hj => ⟨hj.1.elim .inl (fun h => .inr (by have := HMW.out.size; have := hM.size; omega)), hj.2⟩
                have hAB : ∀ j, ((S1 j ∨ (wr.alloc (.cells #[.int .i64 who] 3)).drew.heap.size ≤ j) ∧ j < w6.heap.size) → ¬ S2 j := fun j hj h2 => hj.1.elim (fun h => (H4.out j h).2 h2) (fun h => by have := (HS12.out.2 j h2).1; have := HMW.out.size; have := hM.size; omega)
                refine till_ready (rs := [14]) (by kernel_rfl) (by simp) ?_
                refine till_cons (i := 14) rfl (fun K hK => ?_) till_nil
                (try dsimp (config := { proj := false }) only [List.getElem_toArray, List.getElem_cons_succ, List.getElem_cons_zero])
                go_simp
                refine hK.out _ _ (fun _ => HK.out _ (hM6.alloc _)) ?_
                clear hK K
                (try simp only [Act.put, List.setIfInBounds_toArray, List.set_cons_zero, List.set_cons_succ])
                have hT := cells_at w6 31 [.int .i64 t1, .int .i64 t2, .int .i64 t3, .int .i64 t4, .int .i64 t5, .int .i64 t6, .int .i64 t7] 1 1 _ rfl
                have hM7 := hM6.alloc (.cells #[.int .i64 t1, .int .i64 t2, .int .i64 t3, .int .i64 t4, .int .i64 t5, .int .i64 t6, .int .i64 t7] 31)
                replace hv6t := hv6t.modNil ((Mod.refl nil w6).alloc (.cells #[.int .i64 t1, .int .i64 t2, .int .i64 t3, .int .i64 t4, .int .i64 t5, .int .i64 t6, .int .i64 t7] 31))
                replace hv26 := hv26.modNil ((Mod.refl nil w6).alloc (.cells #[.int .i64 t1, .int .i64 t2, .int .i64 t3, .int .i64 t4, .int .i64 t5, .int .i64 t6, .int .i64 t7] 31))
                have hs66 : (w6.alloc (.cells #[.int .i64 t1, .int .i64 t2, .int .i64 t3, .int .i64 t4, .int .i64 t5, .int .i64 t6, .int .i64 t7] 31)).heap.size = w6.heap.size + 1 := by simp
                refine till_ready (rs := [15]) (by kernel_rfl) (by simp) ?_
                refine till_cons (i := 15) rfl (fun K hK => ?_) till_nil
                (try dsimp (config := { proj := false }) only [List.getElem_toArray, List.getElem_cons_succ, List.getElem_cons_zero])
                refine step_append_vec (S := S2) rfl _ _ _ rfl 31 i1 (T7.val ⟨0, 0, 0, 0, 0, 0, 0⟩) 7 56 Try.underlying28 hj0 hj1 hj2 hj3 rfl (by omega) (.slice pl n cl) n (tvals l) rfl hv26 _ 1 [.int .i64 t1, .int .i64 t2, .int .i64 t3, .int .i64 t4, .int .i64 t5, .int .i64 t6, .int .i64 t7] rfl hT rfl (fun u hu => trade_one ⟨t1, t2, t3, t4, t5, t6, t7⟩ u hu) (by unfold maxLen; omega) (by omega) ?_
                intro v7 w7 hv7 hm7
                obtain ⟨p7, c7, rfl⟩ := hv7.form
                have hM8 := hM7.trans (hm7.mono (T := S) (fun j _ h => H5.out j h)) (fun j _ h => h)
                have hv67 := hv6t.mod hm7 (fun j _ hj hj2 => hAB j hj hj2)
                have hs7 := hm7.size
                refine hK.out _ _ (fun _ => HK.out _ hM8) ?_
                clear hK K
                (try simp only [Act.put, List.setIfInBounds_toArray, List.set_cons_zero, List.set_cons_succ])
                refine till_ready (rs := [16]) (by kernel_rfl) (by simp) ?_
                refine till_cons (i := 16) rfl (fun K hK => ?_) till_nil
                (try dsimp (config := { proj := false }) only [List.getElem_toArray, List.getElem_cons_succ, List.getElem_cons_zero])
                go_simp
                refine hK.out _ _ (fun _ => HK.out _ hM8) ?_
                clear hK K
                (try simp only [Act.put, List.setIfInBounds_toArray, List.set_cons_zero, List.set_cons_succ])
                refine till_ready (rs := [17]) (by kernel_rfl) (by simp) ?_
                refine till_cons (i := 17) rfl (fun K hK => ?_) till_nil
                (try dsimp (config := { proj := false }) only [List.getElem_toArray, List.getElem_cons_succ, List.getElem_cons_zero])
                go_simp
                refine hK.out _ _ (fun _ => HK.out _ hM8) ?_
                clear hK K
                (try simp only [Act.put, List.setIfInBounds_toArray, List.set_cons_zero, List.set_cons_succ])
                have c38 := (HK.out _ hM8).1
                have c48 := (HK.out _ hM8).2.1
                have ho8 := HOB.out _ hM8
                have f38 : w7.frozen? ⟨x, 3, none⟩ = false := free_of ho8 3
                refine till_ready (rs := [18]) (by kernel_rfl) (by simp) ?_
                refine till_cons (i := 18) rfl (fun K hK => ?_) till_nil
                (try dsimp (config := { proj := false }) only [List.getElem_toArray, List.getElem_cons_succ, List.getElem_cons_zero])
                go_simp
                refine hK.out _ _ (fun h => (by simp at h)) ?_
                clear hK K
                (try simp only [Act.put, List.setIfInBounds_toArray, List.set_cons_zero, List.set_cons_succ])
                have ho9 := heap_setCell_same (off := 3) ho8 (.slice p6 (n + 1) c6)
                have c49 : (w7.setCell ⟨x, 3, none⟩ (.slice p6 (n + 1) c6)).cell? ⟨x, 4, none⟩ = some (.slice pl n cl) := cell_of ho9 4
                have f49 : (w7.setCell ⟨x, 3, none⟩ (.slice p6 (n + 1) c6)).frozen? ⟨x, 4, none⟩ = false := free_of ho9 4
                refine till_ready (rs := [19]) (by kernel_rfl) (by simp) ?_
                refine till_cons (i := 19) rfl (fun K hK => ?_) till_nil
                (try dsimp (config := { proj := false }) only [List.getElem_toArray, List.getElem_cons_succ, List.getElem_cons_zero])
                go_simp
                refine hK.out _ _ (fun h => (by simp at h)) ?_
                clear hK K
                (try simp only [Act.put, List.setIfInBounds_toArray, List.set_cons_zero, List.set_cons_succ])
                refine till_ready (rs := [20]) (by kernel_rfl) (by simp) ?_
                refine till_cons (i := 20) rfl (fun K hK => ?_) till_nil
                (try dsimp (config := { proj := false }) only [List.getElem_toArray, List.getElem_cons_succ, List.getElem_cons_zero])
                go_simp
                refine hK.out _ _ (fun h => (by simp at h)) ?_
                clear hK K
                (try simp only [Act.put, List.setIfInBounds_toArray, List.set_cons_zero, List.set_cons_succ])
                refine till_ready (rs := [21]) (by kernel_rfl) (by simp) ?_
                refine till_cons (i := 21) rfl (fun K hK => ?_) till_nil
                (try dsimp (config := { proj := false }) only [List.getElem_toArray, List.getElem_cons_succ, List.getElem_cons_zero])
                go_simp
                refine hK.out _ _ (fun h => (by simp at h)) ?_
                clear hK K
                (try simp only [Act.put, List.setIfInBounds_toArray, List.set_cons_zero, List.set_cons_succ])
                refine till_done (by kernel_rfl) ?_ _
                go_wp2_with fail
                go_ret
                have hR := HR.out
                rw [putR, if_neg (by rw [HR0.out]; simp), if_neg HWB.out, HANY.out, if_neg (by simp), if_neg (by rw [HLN.out]; omega)] at hR
                rw [← hR]
                refine ⟨rfl, ?_⟩
                exact refFin HN.out HLN.out HO.out HS12.out (HMW.out.ofNil.trans hM8 (fun _ _ h => h)) ho8 hv67 hA hv7.trim (fun j hj => ⟨hj.1.elim .inl (fun h => .inr (by omega)), hj.2⟩) (by have := HMW.out.size; have := hM.size; omega) (by have := hM.size; omega)
              refine till_cons (i := 14) rfl (fun K hK => ?_) till_nil
              (try dsimp (config := { proj := false }) only [List.getElem_toArray, List.getElem_cons_succ, List.getElem_cons_zero])
              go_simp
              refine hK.out _ _ (fun _ => HK.out _ ((((Mod.refl S wr).alloc (.cells #[.int .i64 who] 3)).alloc (.cells #[.int .i64 t1, .int .i64 t2, .int .i64 t3, .int .i64 t4, .int .i64 t5, .int .i64 t6, .int .i64 t7] 31)).drew)) ?_
              clear hK K
              (try simp only [Act.put, List.setIfInBounds_toArray, List.set_cons_zero, List.set_cons_succ])
              refine till_ready (rs := [8]) (by kernel_rfl) (by simp) ?_
              refine till_cons (i := 8) rfl (fun K hK => ?_) till_nil
              (try dsimp (config := { proj := false }) only [List.getElem_toArray, List.getElem_cons_succ, List.getElem_cons_zero])
              have hM := (((Mod.refl S wr).alloc (.cells #[.int .i64 who] 3)).alloc (.cells #[.int .i64 t1, .int .i64 t2, .int .i64 t3, .int .i64 t4, .int .i64 t5, .int .i64 t6, .int .i64 t7] 31)).drew
              have hv1 := (((hv1o).modNil ((Mod.refl nil _).alloc (.cells #[.int .i64 who] 3))).modNil ((Mod.refl nil _).alloc (.cells #[.int .i64 t1, .int .i64 t2, .int .i64 t3, .int .i64 t4, .int .i64 t5, .int .i64 t6, .int .i64 t7] 31))).modNil (Mod.refl nil _).drew
              have hv2 := (((hv2o).modNil ((Mod.refl nil _).alloc (.cells #[.int .i64 who] 3))).modNil ((Mod.refl nil _).alloc (.cells #[.int .i64 t1, .int .i64 t2, .int .i64 t3, .int .i64 t4, .int .i64 t5, .int .i64 t6, .int .i64 t7] 31))).modNil (Mod.refl nil _).drew
              have hB := (((cells_one_at wr 3 (.int .i64 who) _ rfl)).modNil ((Mod.refl nil _).alloc (.cells #[.int .i64 t1, .int .i64 t2, .int .i64 t3, .int .i64 t4, .int .i64 t5, .int .i64 t6, .int .i64 t7] 31))).modNil (Mod.refl nil _).drew
              have hT := ((cells_at (wr.alloc (.cells #[.int .i64 who] 3)) 31 [.int .i64 t1, .int .i64 t2, .int .i64 t3, .int .i64 t4, .int .i64 t5, .int .i64 t6, .int .i64 t7] 1 1 (wr.heap.size + 1) (by simp))).modNil (Mod.refl nil _).drew
              refine step_append_vec (S := S1) rfl _ _ _ rfl 3 i0 (.int .i64 0) 1 8 Try.underlying35 hi0 hi1 hi2 hi3 rfl (by omega) (.slice pw n cw) n (l.map (fun y => Value.int .i64 y.who)) rfl hv1 _ 1 [.int .i64 who] rfl hB rfl (by intro u hu; simp at hu; subst hu; rfl) (by unfold maxLen; omega) (by omega) ?_
              intro v6 w6 hv6 hm6
              obtain ⟨p6, c6, rfl⟩ := hv6.form
              have hM6 := hM.trans (hm6.mono (T := S) (fun j _ h => (H4.out j h).1)) (fun j _ h => h)
              have hv26 := hv2.mod hm6 (fun j _ hj hj1 => (H4.out j hj1).2 hj)
              have hs6 := hm6.size
              refine hK.out _ _ (fun _ => HK.out _ hM6) ?_
              clear hK K
              (try simp only [Act.put, List.setIfInBounds_toArray, List.set_cons_zero, List.set_cons_succ])
              have hv6t := hv6.trim
              have hA : ∀ j, ((S1 j ∨ ((wr.alloc (.cells #[.int .i64 who] 3)).alloc (.cells #[.int .i64 t1, .int .i64 t2, .int .i64 t3, .int .i64 t4, .int .i64 t5, .int .i64 t6, .int .i64 t7] 31)).drew.heap.size ≤ j) ∧ j < w6.heap.size) → (S1 j ∨ w.heap.size ≤ j) ∧ j < w6.heap.size := fun j hj => ⟨hj.1.elim .inl (fun h => .inr (by have := HMW.out.size; have := hM.size; omega)), hj.2⟩
              have hAB : ∀ j, ((S1 j ∨ ((wr.alloc (.cells #[.int .i64 who] 3)).alloc (.cells #[.int .i64 t1, .int .i64 t2, .int .i64 t3, .int .i64 t4, .int .i64 t5, .int .i64 t6, .int .i64 t7] 31)).drew.heap.size ≤ j) ∧ j < w6.heap.size) → ¬ S2 j := fun j hj h2 => hj.1.elim (fun h => (H4.out j h).2 h2) (fun h => by have := (HS12.out.2 j h2).1; have := HMW.out.size; have := hM.size; omega)
              have hM7 := hM6
              replace hT := hT.mod hm6 (fun j _ hj e => by have := (HS12.out.1 j e).1; have := HMW.out.size; omega)
              refine till_ready (rs := [15]) (by kernel_rfl) (by simp) ?_
              refine till_cons (i := 15) rfl (fun K hK => ?_) till_nil
              (try dsimp (config := { proj := false }) only [List.getElem_toArray, List.getElem_cons_succ, List.getElem_cons_zero])
              refine step_append_vec (S := S2) rfl _ _ _ rfl 31 i1 (T7.val ⟨0, 0, 0, 0, 0, 0, 0⟩) 7 56 Try.underlying28 hj0 hj1 hj2 hj3 rfl (by omega) (.slice pl n cl) n (tvals l) rfl hv26 _ 1 [.int .i64 t1, .int .i64 t2, .int .i64 t3, .int .i64 t4, .int .i64 t5, .int .i64 t6, .int .i64 t7] rfl hT rfl (fun u hu => trade_one ⟨t1, t2, t3, t4, t5, t6, t7⟩ u hu) (by unfold maxLen; omega) (by omega) ?_
              intro v7 w7 hv7 hm7
              obtain ⟨p7, c7, rfl⟩ := hv7.form
              have hM8 := hM7.trans (hm7.mono (T := S) (fun j _ h => H5.out j h)) (fun j _ h => h)
              have hv67 := hv6t.mod hm7 (fun j _ hj hj2 => hAB j hj hj2)
              have hs7 := hm7.size
              refine hK.out _ _ (fun _ => HK.out _ hM8) ?_
              clear hK K
              (try simp only [Act.put, List.setIfInBounds_toArray, List.set_cons_zero, List.set_cons_succ])
              refine till_ready (rs := [16]) (by kernel_rfl) (by simp) ?_
              refine till_cons (i := 16) rfl (fun K hK => ?_) till_nil
              (try dsimp (config := { proj := false }) only [List.getElem_toArray, List.getElem_cons_succ, List.getElem_cons_zero])
              go_simp
              refine hK.out _ _ (fun _ => HK.out _ hM8) ?_
              clear hK K
              (try simp only [Act.put, List.setIfInBounds_toArray, List.set_cons_zero, List.set_cons_succ])
              refine till_ready (rs := [17]) (by kernel_rfl) (by simp) ?_
              refine till_cons (i := 17) rfl (fun K hK => ?_) till_nil
              (try dsimp (config := { proj := false }) only [List.getElem_toArray, List.getElem_cons_succ, List.getElem_cons_zero])
              go_simp
              refine hK.out _ _ (fun _ => HK.out _ hM8) ?_
              clear hK K
              (try simp only [Act.put, List.setIfInBounds_toArray, List.set_cons_zero, List.set_cons_succ])
              have c38 := (HK.out _ hM8).1
              have c48 := (HK.out _ hM8).2.1
              have ho8 := HOB.out _ hM8
              have f38 : w7.frozen? ⟨x, 3, none⟩ = false := free_of ho8 3
              refine till_ready (rs := [18]) (by kernel_rfl) (by simp) ?_
              refine till_cons (i := 18) rfl (fun K hK => ?_) till_nil
              (try dsimp (config := { proj := false }) only [List.getElem_toArray, List.getElem_cons_succ, List.getElem_cons_zero])
              go_simp
              refine hK.out _ _ (fun h => (by simp at h)) ?_
              clear hK K
              (try simp only [Act.put, List.setIfInBounds_toArray, List.set_cons_zero, List.set_cons_succ])
              have ho9 := heap_setCell_same (off := 3) ho8 (.slice p6 (n + 1) c6)
              have c49 : (w7.setCell ⟨x, 3, none⟩ (.slice p6 (n + 1) c6)).cell? ⟨x, 4, none⟩ = some (.slice pl n cl) := cell_of ho9 4
              have f49 : (w7.setCell ⟨x, 3, none⟩ (.slice p6 (n + 1) c6)).frozen? ⟨x, 4, none⟩ = false := free_of ho9 4
              refine till_ready (rs := [19]) (by kernel_rfl) (by simp) ?_
              refine till_cons (i := 19) rfl (fun K hK => ?_) till_nil
              (try dsimp (config := { proj := false }) only [List.getElem_toArray, List.getElem_cons_succ, List.getElem_cons_zero])
              go_simp
              refine hK.out _ _ (fun h => (by simp at h)) ?_
              clear hK K
              (try simp only [Act.put, List.setIfInBounds_toArray, List.set_cons_zero, List.set_cons_succ])
              refine till_ready (rs := [20]) (by kernel_rfl) (by simp) ?_
              refine till_cons (i := 20) rfl (fun K hK => ?_) till_nil
              (try dsimp (config := { proj := false }) only [List.getElem_toArray, List.getElem_cons_succ, List.getElem_cons_zero])
              go_simp
              refine hK.out _ _ (fun h => (by simp at h)) ?_
              clear hK K
              (try simp only [Act.put, List.setIfInBounds_toArray, List.set_cons_zero, List.set_cons_succ])
              refine till_ready (rs := [21]) (by kernel_rfl) (by simp) ?_
              refine till_cons (i := 21) rfl (fun K hK => ?_) till_nil
              (try dsimp (config := { proj := false }) only [List.getElem_toArray, List.getElem_cons_succ, List.getElem_cons_zero])
              go_simp
              refine hK.out _ _ (fun h => (by simp at h)) ?_
              clear hK K
              (try simp only [Act.put, List.setIfInBounds_toArray, List.set_cons_zero, List.set_cons_succ])
              refine till_done (by kernel_rfl) ?_ _
              go_wp2_with fail
              go_ret
              have hR := HR.out
              rw [putR, if_neg (by rw [HR0.out]; simp), if_neg HWB.out, HANY.out, if_neg (by simp), if_neg (by rw [HLN.out]; omega)] at hR
              rw [← hR]
              refine ⟨rfl, ?_⟩
              exact refFin HN.out HLN.out HO.out HS12.out (HMW.out.ofNil.trans hM8 (fun _ _ h => h)) ho8 hv67 hA hv7.trim (fun j hj => ⟨hj.1.elim .inl (fun h => .inr (by omega)), hj.2⟩) (by have := HMW.out.size; have := hM.size; omega) (by have := hM.size; omega)
            refine till_cons (i := 13) rfl (fun K hK => ?_) till_nil
            (try dsimp (config := { proj := false }) only [List.getElem_toArray, List.getElem_cons_succ, List.getElem_cons_zero])
            have hqq := HK.out _ ((Mod.refl S wr).drew)
            have k1 := hqq.2.2.1
            have k2 := hqq.2.2.2.1
            have k3 := hqq.2.2.2.2.1
            have k4 := hqq.2.2.2.2.2.1
            have k5 := hqq.2.2.2.2.2.2.1
            have k6 := hqq.2.2.2.2.2.2.2.1
            have k7 := hqq.2.2.2.2.2.2.2.2
            clear hqq
            go_simp
            refine hK.out _ _ (fun _ => HK.out _ ((Mod.refl S wr).drew)) ?_
            clear hK K k1 k2 k3 k4 k5 k6 k7
            (try simp only [Act.put, List.setIfInBounds_toArray, List.set_cons_zero, List.set_cons_succ])
            refine till_ready (rs := [7, 14]) (by kernel_rfl) (by simp) ?_
            refine till_cons (i := 7) rfl (fun K hK => ?_) ?_
            · (try dsimp (config := { proj := false }) only [List.getElem_toArray, List.getElem_cons_succ, List.getElem_cons_zero])
              go_simp
              refine hK.out _ _ (fun _ => HK.out _ (((Mod.refl S wr).alloc (.cells #[.int .i64 who] 3)).drew)) ?_
              clear hK K
              (try simp only [Act.put, List.setIfInBounds_toArray, List.set_cons_zero, List.set_cons_succ])
              refine till_ready (rs := [8, 14]) (by kernel_rfl) (by simp) ?_
              refine till_cons (i := 8) rfl (fun K hK => ?_) ?_
              · (try dsimp (config := { proj := false }) only [List.getElem_toArray, List.getElem_cons_succ, List.getElem_cons_zero])
                have hM := ((Mod.refl S wr).alloc (.cells #[.int .i64 who] 3)).drew
                have hv1 := ((hv1o).modNil ((Mod.refl nil _).alloc (.cells #[.int .i64 who] 3))).modNil (Mod.refl nil _).drew
                have hv2 := ((hv2o).modNil ((Mod.refl nil _).alloc (.cells #[.int .i64 who] 3))).modNil (Mod.refl nil _).drew
                have hB := ((cells_one_at wr 3 (.int .i64 who) _ rfl)).modNil (Mod.refl nil _).drew
                refine step_append_vec (S := S1) rfl _ _ _ rfl 3 i0 (.int .i64 0) 1 8 Try.underlying35 hi0 hi1 hi2 hi3 rfl (by omega) (.slice pw n cw) n (l.map (fun y => Value.int .i64 y.who)) rfl hv1 _ 1 [.int .i64 who] rfl hB rfl (by intro u hu; simp at hu; subst hu; rfl) (by unfold maxLen; omega) (by omega) ?_
                intro v6 w6 hv6 hm6
                obtain ⟨p6, c6, rfl⟩ := hv6.form
                have hM6 := hM.trans (hm6.mono (T := S) (fun j _ h => (H4.out j h).1)) (fun j _ h => h)
                have hv26 := hv2.mod hm6 (fun j _ hj hj1 => (H4.out j hj1).2 hj)
                have hs6 := hm6.size
                refine hK.out _ _ (fun _ => HK.out _ hM6) ?_
                clear hK K
                (try simp only [Act.put, List.setIfInBounds_toArray, List.set_cons_zero, List.set_cons_succ])
                have hv6t := hv6.trim
                have hA : ∀ j, ((S1 j ∨ (wr.alloc (.cells #[.int .i64 who] 3)).drew.heap.size ≤ j) ∧ j < w6.heap.size) → (S1 j ∨ w.heap.size ≤ j) ∧ j < w6.heap.size := fun j hj => ⟨hj.1.elim .inl (fun h => .inr (by have := HMW.out.size; have := hM.size; omega)), hj.2⟩
                have hAB : ∀ j, ((S1 j ∨ (wr.alloc (.cells #[.int .i64 who] 3)).drew.heap.size ≤ j) ∧ j < w6.heap.size) → ¬ S2 j := fun j hj h2 => hj.1.elim (fun h => (H4.out j h).2 h2) (fun h => by have := (HS12.out.2 j h2).1; have := HMW.out.size; have := hM.size; omega)
                refine till_ready (rs := [14]) (by kernel_rfl) (by simp) ?_
                refine till_cons (i := 14) rfl (fun K hK => ?_) till_nil
                (try dsimp (config := { proj := false }) only [List.getElem_toArray, List.getElem_cons_succ, List.getElem_cons_zero])
                go_simp
                refine hK.out _ _ (fun _ => HK.out _ (hM6.alloc _)) ?_
                clear hK K
                (try simp only [Act.put, List.setIfInBounds_toArray, List.set_cons_zero, List.set_cons_succ])
                have hT := cells_at w6 31 [.int .i64 t1, .int .i64 t2, .int .i64 t3, .int .i64 t4, .int .i64 t5, .int .i64 t6, .int .i64 t7] 1 1 _ rfl
                have hM7 := hM6.alloc (.cells #[.int .i64 t1, .int .i64 t2, .int .i64 t3, .int .i64 t4, .int .i64 t5, .int .i64 t6, .int .i64 t7] 31)
                replace hv6t := hv6t.modNil ((Mod.refl nil w6).alloc (.cells #[.int .i64 t1, .int .i64 t2, .int .i64 t3, .int .i64 t4, .int .i64 t5, .int .i64 t6, .int .i64 t7] 31))
                replace hv26 := hv26.modNil ((Mod.refl nil w6).alloc (.cells #[.int .i64 t1, .int .i64 t2, .int .i64 t3, .int .i64 t4, .int .i64 t5, .int .i64 t6, .int .i64 t7] 31))
                have hs66 : (w6.alloc (.cells #[.int .i64 t1, .int .i64 t2, .int .i64 t3, .int .i64 t4, .int .i64 t5, .int .i64 t6, .int .i64 t7] 31)).heap.size = w6.heap.size + 1 := by simp
                refine till_ready (rs := [15]) (by kernel_rfl) (by simp) ?_
                refine till_cons (i := 15) rfl (fun K hK => ?_) till_nil
                (try dsimp (config := { proj := false }) only [List.getElem_toArray, List.getElem_cons_succ, List.getElem_cons_zero])
                refine step_append_vec (S := S2) rfl _ _ _ rfl 31 i1 (T7.val ⟨0, 0, 0, 0, 0, 0, 0⟩) 7 56 Try.underlying28 hj0 hj1 hj2 hj3 rfl (by omega) (.slice pl n cl) n (tvals l) rfl hv26 _ 1 [.int .i64 t1, .int .i64 t2, .int .i64 t3, .int .i64 t4, .int .i64 t5, .int .i64 t6, .int .i64 t7] rfl hT rfl (fun u hu => trade_one ⟨t1, t2, t3, t4, t5, t6, t7⟩ u hu) (by unfold maxLen; omega) (by omega) ?_
                intro v7 w7 hv7 hm7
                obtain ⟨p7, c7, rfl⟩ := hv7.form
                have hM8 := hM7.trans (hm7.mono (T := S) (fun j _ h => H5.out j h)) (fun j _ h => h)
                have hv67 := hv6t.mod hm7 (fun j _ hj hj2 => hAB j hj hj2)
                have hs7 := hm7.size
                refine hK.out _ _ (fun _ => HK.out _ hM8) ?_
                clear hK K
                (try simp only [Act.put, List.setIfInBounds_toArray, List.set_cons_zero, List.set_cons_succ])
                refine till_ready (rs := [16]) (by kernel_rfl) (by simp) ?_
                refine till_cons (i := 16) rfl (fun K hK => ?_) till_nil
                (try dsimp (config := { proj := false }) only [List.getElem_toArray, List.getElem_cons_succ, List.getElem_cons_zero])
                go_simp
                refine hK.out _ _ (fun _ => HK.out _ hM8) ?_
                clear hK K
                (try simp only [Act.put, List.setIfInBounds_toArray, List.set_cons_zero, List.set_cons_succ])
                refine till_ready (rs := [17]) (by kernel_rfl) (by simp) ?_
                refine till_cons (i := 17) rfl (fun K hK => ?_) till_nil
                (try dsimp (config := { proj := false }) only [List.getElem_toArray, List.getElem_cons_succ, List.getElem_cons_zero])
                go_simp
                refine hK.out _ _ (fun _ => HK.out _ hM8) ?_
                clear hK K
                (try simp only [Act.put, List.setIfInBounds_toArray, List.set_cons_zero, List.set_cons_succ])
                have c38 := (HK.out _ hM8).1
                have c48 := (HK.out _ hM8).2.1
                have ho8 := HOB.out _ hM8
                have f38 : w7.frozen? ⟨x, 3, none⟩ = false := free_of ho8 3
                refine till_ready (rs := [18]) (by kernel_rfl) (by simp) ?_
                refine till_cons (i := 18) rfl (fun K hK => ?_) till_nil
                (try dsimp (config := { proj := false }) only [List.getElem_toArray, List.getElem_cons_succ, List.getElem_cons_zero])
                go_simp
                refine hK.out _ _ (fun h => (by simp at h)) ?_
                clear hK K
                (try simp only [Act.put, List.setIfInBounds_toArray, List.set_cons_zero, List.set_cons_succ])
                have ho9 := heap_setCell_same (off := 3) ho8 (.slice p6 (n + 1) c6)
                have c49 : (w7.setCell ⟨x, 3, none⟩ (.slice p6 (n + 1) c6)).cell? ⟨x, 4, none⟩ = some (.slice pl n cl) := cell_of ho9 4
                have f49 : (w7.setCell ⟨x, 3, none⟩ (.slice p6 (n + 1) c6)).frozen? ⟨x, 4, none⟩ = false := free_of ho9 4
                refine till_ready (rs := [19]) (by kernel_rfl) (by simp) ?_
                refine till_cons (i := 19) rfl (fun K hK => ?_) till_nil
                (try dsimp (config := { proj := false }) only [List.getElem_toArray, List.getElem_cons_succ, List.getElem_cons_zero])
                go_simp
                refine hK.out _ _ (fun h => (by simp at h)) ?_
                clear hK K
                (try simp only [Act.put, List.setIfInBounds_toArray, List.set_cons_zero, List.set_cons_succ])
                refine till_ready (rs := [20]) (by kernel_rfl) (by simp) ?_
                refine till_cons (i := 20) rfl (fun K hK => ?_) till_nil
                (try dsimp (config := { proj := false }) only [List.getElem_toArray, List.getElem_cons_succ, List.getElem_cons_zero])
                go_simp
                refine hK.out _ _ (fun h => (by simp at h)) ?_
                clear hK K
                (try simp only [Act.put, List.setIfInBounds_toArray, List.set_cons_zero, List.set_cons_succ])
                refine till_ready (rs := [21]) (by kernel_rfl) (by simp) ?_
                refine till_cons (i := 21) rfl (fun K hK => ?_) till_nil
                (try dsimp (config := { proj := false }) only [List.getElem_toArray, List.getElem_cons_succ, List.getElem_cons_zero])
                go_simp
                refine hK.out _ _ (fun h => (by simp at h)) ?_
                clear hK K
                (try simp only [Act.put, List.setIfInBounds_toArray, List.set_cons_zero, List.set_cons_succ])
                refine till_done (by kernel_rfl) ?_ _
                go_wp2_with fail
                go_ret
                have hR := HR.out
                rw [putR, if_neg (by rw [HR0.out]; simp), if_neg HWB.out, HANY.out, if_neg (by simp), if_neg (by rw [HLN.out]; omega)] at hR
                rw [← hR]
                refine ⟨rfl, ?_⟩
                exact refFin HN.out HLN.out HO.out HS12.out (HMW.out.ofNil.trans hM8 (fun _ _ h => h)) ho8 hv67 hA hv7.trim (fun j hj => ⟨hj.1.elim .inl (fun h => .inr (by omega)), hj.2⟩) (by have := HMW.out.size; have := hM.size; omega) (by have := hM.size; omega)
              refine till_cons (i := 14) rfl (fun K hK => ?_) till_nil
              (try dsimp (config := { proj := false }) only [List.getElem_toArray, List.getElem_cons_succ, List.getElem_cons_zero])
              go_simp
              refine hK.out _ _ (fun _ => HK.out _ ((((Mod.refl S wr).alloc (.cells #[.int .i64 who] 3)).alloc (.cells #[.int .i64 t1, .int .i64 t2, .int .i64 t3, .int .i64 t4, .int .i64 t5, .int .i64 t6, .int .i64 t7] 31)).drew)) ?_
              clear hK K
              (try simp only [Act.put, List.setIfInBounds_toArray, List.set_cons_zero, List.set_cons_succ])
              refine till_ready (rs := [8]) (by kernel_rfl) (by simp) ?_
              refine till_cons (i := 8) rfl (fun K hK => ?_) till_nil
              (try dsimp (config := { proj := false }) only [List.getElem_toArray, List.getElem_cons_succ, List.getElem_cons_zero])
              have hM := (((Mod.refl S wr).alloc (.cells #[.int .i64 who] 3)).alloc (.cells #[.int .i64 t1, .int .i64 t2, .int .i64 t3, .int .i64 t4, .int .i64 t5, .int .i64 t6, .int .i64 t7] 31)).drew
              have hv1 := (((hv1o).modNil ((Mod.refl nil _).alloc (.cells #[.int .i64 who] 3))).modNil ((Mod.refl nil _).alloc (.cells #[.int .i64 t1, .int .i64 t2, .int .i64 t3, .int .i64 t4, .int .i64 t5, .int .i64 t6, .int .i64 t7] 31))).modNil (Mod.refl nil _).drew
              have hv2 := (((hv2o).modNil ((Mod.refl nil _).alloc (.cells #[.int .i64 who] 3))).modNil ((Mod.refl nil _).alloc (.cells #[.int .i64 t1, .int .i64 t2, .int .i64 t3, .int .i64 t4, .int .i64 t5, .int .i64 t6, .int .i64 t7] 31))).modNil (Mod.refl nil _).drew
              have hB := (((cells_one_at wr 3 (.int .i64 who) _ rfl)).modNil ((Mod.refl nil _).alloc (.cells #[.int .i64 t1, .int .i64 t2, .int .i64 t3, .int .i64 t4, .int .i64 t5, .int .i64 t6, .int .i64 t7] 31))).modNil (Mod.refl nil _).drew
              have hT := ((cells_at (wr.alloc (.cells #[.int .i64 who] 3)) 31 [.int .i64 t1, .int .i64 t2, .int .i64 t3, .int .i64 t4, .int .i64 t5, .int .i64 t6, .int .i64 t7] 1 1 (wr.heap.size + 1) (by simp))).modNil (Mod.refl nil _).drew
              refine step_append_vec (S := S1) rfl _ _ _ rfl 3 i0 (.int .i64 0) 1 8 Try.underlying35 hi0 hi1 hi2 hi3 rfl (by omega) (.slice pw n cw) n (l.map (fun y => Value.int .i64 y.who)) rfl hv1 _ 1 [.int .i64 who] rfl hB rfl (by intro u hu; simp at hu; subst hu; rfl) (by unfold maxLen; omega) (by omega) ?_
              intro v6 w6 hv6 hm6
              obtain ⟨p6, c6, rfl⟩ := hv6.form
              have hM6 := hM.trans (hm6.mono (T := S) (fun j _ h => (H4.out j h).1)) (fun j _ h => h)
              have hv26 := hv2.mod hm6 (fun j _ hj hj1 => (H4.out j hj1).2 hj)
              have hs6 := hm6.size
              refine hK.out _ _ (fun _ => HK.out _ hM6) ?_
              clear hK K
              (try simp only [Act.put, List.setIfInBounds_toArray, List.set_cons_zero, List.set_cons_succ])
              have hv6t := hv6.trim
              have hA : ∀ j, ((S1 j ∨ ((wr.alloc (.cells #[.int .i64 who] 3)).alloc (.cells #[.int .i64 t1, .int .i64 t2, .int .i64 t3, .int .i64 t4, .int .i64 t5, .int .i64 t6, .int .i64 t7] 31)).drew.heap.size ≤ j) ∧ j < w6.heap.size) → (S1 j ∨ w.heap.size ≤ j) ∧ j < w6.heap.size := fun j hj => ⟨hj.1.elim .inl (fun h => .inr (by have := HMW.out.size; have := hM.size; omega)), hj.2⟩
              have hAB : ∀ j, ((S1 j ∨ ((wr.alloc (.cells #[.int .i64 who] 3)).alloc (.cells #[.int .i64 t1, .int .i64 t2, .int .i64 t3, .int .i64 t4, .int .i64 t5, .int .i64 t6, .int .i64 t7] 31)).drew.heap.size ≤ j) ∧ j < w6.heap.size) → ¬ S2 j := fun j hj h2 => hj.1.elim (fun h => (H4.out j h).2 h2) (fun h => by have := (HS12.out.2 j h2).1; have := HMW.out.size; have := hM.size; omega)
              have hM7 := hM6
              replace hT := hT.mod hm6 (fun j _ hj e => by have := (HS12.out.1 j e).1; have := HMW.out.size; omega)
              refine till_ready (rs := [15]) (by kernel_rfl) (by simp) ?_
              refine till_cons (i := 15) rfl (fun K hK => ?_) till_nil
              (try dsimp (config := { proj := false }) only [List.getElem_toArray, List.getElem_cons_succ, List.getElem_cons_zero])
              refine step_append_vec (S := S2) rfl _ _ _ rfl 31 i1 (T7.val ⟨0, 0, 0, 0, 0, 0, 0⟩) 7 56 Try.underlying28 hj0 hj1 hj2 hj3 rfl (by omega) (.slice pl n cl) n (tvals l) rfl hv26 _ 1 [.int .i64 t1, .int .i64 t2, .int .i64 t3, .int .i64 t4, .int .i64 t5, .int .i64 t6, .int .i64 t7] rfl hT rfl (fun u hu => trade_one ⟨t1, t2, t3, t4, t5, t6, t7⟩ u hu) (by unfold maxLen; omega) (by omega) ?_
              intro v7 w7 hv7 hm7
              obtain ⟨p7, c7, rfl⟩ := hv7.form
              have hM8 := hM7.trans (hm7.mono (T := S) (fun j _ h => H5.out j h)) (fun j _ h => h)
              have hv67 := hv6t.mod hm7 (fun j _ hj hj2 => hAB j hj hj2)
              have hs7 := hm7.size
              refine hK.out _ _ (fun _ => HK.out _ hM8) ?_
              clear hK K
              (try simp only [Act.put, List.setIfInBounds_toArray, List.set_cons_zero, List.set_cons_succ])
              refine till_ready (rs := [16]) (by kernel_rfl) (by simp) ?_
              refine till_cons (i := 16) rfl (fun K hK => ?_) till_nil
              (try dsimp (config := { proj := false }) only [List.getElem_toArray, List.getElem_cons_succ, List.getElem_cons_zero])
              go_simp
              refine hK.out _ _ (fun _ => HK.out _ hM8) ?_
              clear hK K
              (try simp only [Act.put, List.setIfInBounds_toArray, List.set_cons_zero, List.set_cons_succ])
              refine till_ready (rs := [17]) (by kernel_rfl) (by simp) ?_
              refine till_cons (i := 17) rfl (fun K hK => ?_) till_nil
              (try dsimp (config := { proj := false }) only [List.getElem_toArray, List.getElem_cons_succ, List.getElem_cons_zero])
              go_simp
              refine hK.out _ _ (fun _ => HK.out _ hM8) ?_
              clear hK K
              (try simp only [Act.put, List.setIfInBounds_toArray, List.set_cons_zero, List.set_cons_succ])
              have c38 := (HK.out _ hM8).1
              have c48 := (HK.out _ hM8).2.1
              have ho8 := HOB.out _ hM8
              have f38 : w7.frozen? ⟨x, 3, none⟩ = false := free_of ho8 3
              refine till_ready (rs := [18]) (by kernel_rfl) (by simp) ?_
              refine till_cons (i := 18) rfl (fun K hK => ?_) till_nil
              (try dsimp (config := { proj := false }) only [List.getElem_toArray, List.getElem_cons_succ, List.getElem_cons_zero])
              go_simp
              refine hK.out _ _ (fun h => (by simp at h)) ?_
              clear hK K
              (try simp only [Act.put, List.setIfInBounds_toArray, List.set_cons_zero, List.set_cons_succ])
              have ho9 := heap_setCell_same (off := 3) ho8 (.slice p6 (n + 1) c6)
              have c49 : (w7.setCell ⟨x, 3, none⟩ (.slice p6 (n + 1) c6)).cell? ⟨x, 4, none⟩ = some (.slice pl n cl) := cell_of ho9 4
              have f49 : (w7.setCell ⟨x, 3, none⟩ (.slice p6 (n + 1) c6)).frozen? ⟨x, 4, none⟩ = false := free_of ho9 4
              refine till_ready (rs := [19]) (by kernel_rfl) (by simp) ?_
              refine till_cons (i := 19) rfl (fun K hK => ?_) till_nil
              (try dsimp (config := { proj := false }) only [List.getElem_toArray, List.getElem_cons_succ, List.getElem_cons_zero])
              go_simp
              refine hK.out _ _ (fun h => (by simp at h)) ?_
              clear hK K
              (try simp only [Act.put, List.setIfInBounds_toArray, List.set_cons_zero, List.set_cons_succ])
              refine till_ready (rs := [20]) (by kernel_rfl) (by simp) ?_
              refine till_cons (i := 20) rfl (fun K hK => ?_) till_nil
              (try dsimp (config := { proj := false }) only [List.getElem_toArray, List.getElem_cons_succ, List.getElem_cons_zero])
              go_simp
              refine hK.out _ _ (fun h => (by simp at h)) ?_
              clear hK K
              (try simp only [Act.put, List.setIfInBounds_toArray, List.set_cons_zero, List.set_cons_succ])
              refine till_ready (rs := [21]) (by kernel_rfl) (by simp) ?_
              refine till_cons (i := 21) rfl (fun K hK => ?_) till_nil
              (try dsimp (config := { proj := false }) only [List.getElem_toArray, List.getElem_cons_succ, List.getElem_cons_zero])
              go_simp
              refine hK.out _ _ (fun h => (by simp at h)) ?_
              clear hK K
              (try simp only [Act.put, List.setIfInBounds_toArray, List.set_cons_zero, List.set_cons_succ])
              refine till_done (by kernel_rfl) ?_ _
              go_wp2_with fail
              go_ret
              have hR := HR.out
              rw [putR, if_neg (by rw [HR0.out]; simp), if_neg HWB.out, HANY.out, if_neg (by simp), if_neg (by rw [HLN.out]; omega)] at hR
              rw [← hR]
              refine ⟨rfl, ?_⟩
              exact refFin HN.out HLN.out HO.out HS12.out (HMW.out.ofNil.trans hM8 (fun _ _ h => h)) ho8 hv67 hA hv7.trim (fun j hj => ⟨hj.1.elim .inl (fun h => .inr (by omega)), hj.2⟩) (by have := HMW.out.size; have := hM.size; omega) (by have := hM.size; omega)
            refine till_cons (i := 14) rfl (fun K hK => ?_) till_nil
            (try dsimp (config := { proj := false }) only [List.getElem_toArray, List.getElem_cons_succ, List.getElem_cons_zero])
            go_simp
            refine hK.out _ _ (fun _ => HK.out _ (((Mod.refl S wr).alloc (.cells #[.int .i64 t1, .int .i64 t2, .int .i64 t3, .int .i64 t4, .int .i64 t5, .int .i64 t6, .int .i64 t7] 31)).drew)) ?_
            clear hK K
            (try simp only [Act.put, List.setIfInBounds_toArray, List.set_cons_zero, List.set_cons_succ])
            refine till_ready (rs := [7]) (by kernel_rfl) (by simp) ?_
            refine till_cons (i := 7) rfl (fun K hK => ?_) till_nil
            (try dsimp (config := { proj := false }) only [List.getElem_toArray, List.getElem_cons_succ, List.getElem_cons_zero])
            go_simp
            refine hK.out _ _ (fun _ => HK.out _ ((((Mod.refl S wr).alloc (.cells #[.int .i64 t1, .int .i64 t2, .int .i64 t3, .int .i64 t4, .int .i64 t5, .int .i64 t6, .int .i64 t7] 31)).alloc (.cells #[.int .i64 who] 3)).drew)) ?_
            clear hK K
            (try simp only [Act.put, List.setIfInBounds_toArray, List.set_cons_zero, List.set_cons_succ])
            refine till_ready (rs := [8]) (by kernel_rfl) (by simp) ?_
            refine till_cons (i := 8) rfl (fun K hK => ?_) till_nil
            (try dsimp (config := { proj := false }) only [List.getElem_toArray, List.getElem_cons_succ, List.getElem_cons_zero])
            have hM := (((Mod.refl S wr).alloc (.cells #[.int .i64 t1, .int .i64 t2, .int .i64 t3, .int .i64 t4, .int .i64 t5, .int .i64 t6, .int .i64 t7] 31)).alloc (.cells #[.int .i64 who] 3)).drew
            have hv1 := (((hv1o).modNil ((Mod.refl nil _).alloc (.cells #[.int .i64 t1, .int .i64 t2, .int .i64 t3, .int .i64 t4, .int .i64 t5, .int .i64 t6, .int .i64 t7] 31))).modNil ((Mod.refl nil _).alloc (.cells #[.int .i64 who] 3))).modNil (Mod.refl nil _).drew
            have hv2 := (((hv2o).modNil ((Mod.refl nil _).alloc (.cells #[.int .i64 t1, .int .i64 t2, .int .i64 t3, .int .i64 t4, .int .i64 t5, .int .i64 t6, .int .i64 t7] 31))).modNil ((Mod.refl nil _).alloc (.cells #[.int .i64 who] 3))).modNil (Mod.refl nil _).drew
            have hB := ((cells_one_at (wr.alloc (.cells #[.int .i64 t1, .int .i64 t2, .int .i64 t3, .int .i64 t4, .int .i64 t5, .int .i64 t6, .int .i64 t7] 31)) 3 (.int .i64 who) (wr.heap.size + 1) (by simp))).modNil (Mod.refl nil _).drew
            have hT := (((cells_at wr 31 [.int .i64 t1, .int .i64 t2, .int .i64 t3, .int .i64 t4, .int .i64 t5, .int .i64 t6, .int .i64 t7] 1 1 _ rfl)).modNil ((Mod.refl nil _).alloc (.cells #[.int .i64 who] 3))).modNil (Mod.refl nil _).drew
            refine step_append_vec (S := S1) rfl _ _ _ rfl 3 i0 (.int .i64 0) 1 8 Try.underlying35 hi0 hi1 hi2 hi3 rfl (by omega) (.slice pw n cw) n (l.map (fun y => Value.int .i64 y.who)) rfl hv1 _ 1 [.int .i64 who] rfl hB rfl (by intro u hu; simp at hu; subst hu; rfl) (by unfold maxLen; omega) (by omega) ?_
            intro v6 w6 hv6 hm6
            obtain ⟨p6, c6, rfl⟩ := hv6.form
            have hM6 := hM.trans (hm6.mono (T := S) (fun j _ h => (H4.out j h).1)) (fun j _ h => h)
            have hv26 := hv2.mod hm6 (fun j _ hj hj1 => (H4.out j hj1).2 hj)
            have hs6 := hm6.size
            refine hK.out _ _ (fun _ => HK.out _ hM6) ?_
            clear hK K
            (try simp only [Act.put, List.setIfInBounds_toArray, List.set_cons_zero, List.set_cons_succ])
            have hv6t := hv6.trim
            have hA : ∀ j, ((S1 j ∨ ((wr.alloc (.cells #[.int .i64 t1, .int .i64 t2, .int .i64 t3, .int .i64 t4, .int .i64 t5, .int .i64 t6, .int .i64 t7] 31)).alloc (.cells #[.int .i64 who] 3)).drew.heap.size ≤ j) ∧ j < w6.heap.size) → (S1 j ∨ w.heap.size ≤ j) ∧ j < w6.heap.size := fun j hj => ⟨hj.1.elim .inl (fun h => .inr (by have := HMW.out.size; have := hM.size; omega)), hj.2⟩
            have hAB : ∀ j, ((S1 j ∨ ((wr.alloc (.cells #[.int .i64 t1, .int .i64 t2, .int .i64 t3, .int .i64 t4, .int .i64 t5, .int .i64 t6, .int .i64 t7] 31)).alloc (.cells #[.int .i64 who] 3)).drew.heap.size ≤ j) ∧ j < w6.heap.size) → ¬ S2 j := fun j hj h2 => hj.1.elim (fun h => (H4.out j h).2 h2) (fun h => by have := (HS12.out.2 j h2).1; have := HMW.out.size; have := hM.size; omega)
            have hM7 := hM6
            replace hT := hT.mod hm6 (fun j _ hj e => by have := (HS12.out.1 j e).1; have := HMW.out.size; omega)
            refine till_ready (rs := [15]) (by kernel_rfl) (by simp) ?_
            refine till_cons (i := 15) rfl (fun K hK => ?_) till_nil
            (try dsimp (config := { proj := false }) only [List.getElem_toArray, List.getElem_cons_succ, List.getElem_cons_zero])
            refine step_append_vec (S := S2) rfl _ _ _ rfl 31 i1 (T7.val ⟨0, 0, 0, 0, 0, 0, 0⟩) 7 56 Try.underlying28 hj0 hj1 hj2 hj3 rfl (by omega) (.slice pl n cl) n (tvals l) rfl hv26 _ 1 [.int .i64 t1, .int .i64 t2, .int .i64 t3, .int .i64 t4, .int .i64 t5, .int .i64 t6, .int .i64 t7] rfl hT rfl (fun u hu => trade_one ⟨t1, t2, t3, t4, t5, t6, t7⟩ u hu) (by unfold maxLen; omega) (by omega) ?_
            intro v7 w7 hv7 hm7
            obtain ⟨p7, c7, rfl⟩ := hv7.form
            have hM8 := hM7.trans (hm7.mono (T := S) (fun j _ h => H5.out j h)) (fun j _ h => h)
            have hv67 := hv6t.mod hm7 (fun j _ hj hj2 => hAB j hj hj2)
            have hs7 := hm7.size
            refine hK.out _ _ (fun _ => HK.out _ hM8) ?_
            clear hK K
            (try simp only [Act.put, List.setIfInBounds_toArray, List.set_cons_zero, List.set_cons_succ])
            refine till_ready (rs := [16]) (by kernel_rfl) (by simp) ?_
            refine till_cons (i := 16) rfl (fun K hK => ?_) till_nil
            (try dsimp (config := { proj := false }) only [List.getElem_toArray, List.getElem_cons_succ, List.getElem_cons_zero])
            go_simp
            refine hK.out _ _ (fun _ => HK.out _ hM8) ?_
            clear hK K
            (try simp only [Act.put, List.setIfInBounds_toArray, List.set_cons_zero, List.set_cons_succ])
            refine till_ready (rs := [17]) (by kernel_rfl) (by simp) ?_
            refine till_cons (i := 17) rfl (fun K hK => ?_) till_nil
            (try dsimp (config := { proj := false }) only [List.getElem_toArray, List.getElem_cons_succ, List.getElem_cons_zero])
            go_simp
            refine hK.out _ _ (fun _ => HK.out _ hM8) ?_
            clear hK K
            (try simp only [Act.put, List.setIfInBounds_toArray, List.set_cons_zero, List.set_cons_succ])
            have c38 := (HK.out _ hM8).1
            have c48 := (HK.out _ hM8).2.1
            have ho8 := HOB.out _ hM8
            have f38 : w7.frozen? ⟨x, 3, none⟩ = false := free_of ho8 3
            refine till_ready (rs := [18]) (by kernel_rfl) (by simp) ?_
            refine till_cons (i := 18) rfl (fun K hK => ?_) till_nil
            (try dsimp (config := { proj := false }) only [List.getElem_toArray, List.getElem_cons_succ, List.getElem_cons_zero])
            go_simp
            refine hK.out _ _ (fun h => (by simp at h)) ?_
            clear hK K
            (try simp only [Act.put, List.setIfInBounds_toArray, List.set_cons_zero, List.set_cons_succ])
            have ho9 := heap_setCell_same (off := 3) ho8 (.slice p6 (n + 1) c6)
            have c49 : (w7.setCell ⟨x, 3, none⟩ (.slice p6 (n + 1) c6)).cell? ⟨x, 4, none⟩ = some (.slice pl n cl) := cell_of ho9 4
            have f49 : (w7.setCell ⟨x, 3, none⟩ (.slice p6 (n + 1) c6)).frozen? ⟨x, 4, none⟩ = false := free_of ho9 4
            refine till_ready (rs := [19]) (by kernel_rfl) (by simp) ?_
            refine till_cons (i := 19) rfl (fun K hK => ?_) till_nil
            (try dsimp (config := { proj := false }) only [List.getElem_toArray, List.getElem_cons_succ, List.getElem_cons_zero])
            go_simp
            refine hK.out _ _ (fun h => (by simp at h)) ?_
            clear hK K
            (try simp only [Act.put, List.setIfInBounds_toArray, List.set_cons_zero, List.set_cons_succ])
            refine till_ready (rs := [20]) (by kernel_rfl) (by simp) ?_
            refine till_cons (i := 20) rfl (fun K hK => ?_) till_nil
            (try dsimp (config := { proj := false }) only [List.getElem_toArray, List.getElem_cons_succ, List.getElem_cons_zero])
            go_simp
            refine hK.out _ _ (fun h => (by simp at h)) ?_
            clear hK K
            (try simp only [Act.put, List.setIfInBounds_toArray, List.set_cons_zero, List.set_cons_succ])
            refine till_ready (rs := [21]) (by kernel_rfl) (by simp) ?_
            refine till_cons (i := 21) rfl (fun K hK => ?_) till_nil
            (try dsimp (config := { proj := false }) only [List.getElem_toArray, List.getElem_cons_succ, List.getElem_cons_zero])
            go_simp
            refine hK.out _ _ (fun h => (by simp at h)) ?_
            clear hK K
            (try simp only [Act.put, List.setIfInBounds_toArray, List.set_cons_zero, List.set_cons_succ])
            refine till_done (by kernel_rfl) ?_ _
            go_wp2_with fail
            go_ret
            have hR := HR.out
            rw [putR, if_neg (by rw [HR0.out]; simp), if_neg HWB.out, HANY.out, if_neg (by simp), if_neg (by rw [HLN.out]; omega)] at hR
            rw [← hR]
            refine ⟨rfl, ?_⟩
            exact refFin HN.out HLN.out HO.out HS12.out (HMW.out.ofNil.trans hM8 (fun _ _ h => h)) ho8 hv67 hA hv7.trim (fun j hj => ⟨hj.1.elim .inl (fun h => .inr (by omega)), hj.2⟩) (by have := HMW.out.size; have := hM.size; omega) (by have := hM.size; omega)
    · have hb1 : (who != t2) = true := by simp; omega
      have hb2 : (who != t3) = true := by simp; omega
      have HWB : Hid (who ≠ t2 ∧ who ≠ t3) := Lib.hid (by omega)
      clear hw1
      go_wp2_with fail
      go_ret
      have hR := HR.out
      rw [putR, if_neg (by rw [HR0.out]; simp), if_pos (by exact HWB.out)] at hR
      rw [← hR]
      exact ⟨rfl, HG.out ▸ HSAME.out _ HM2.out, HM2.out.ofNil⟩
  · have hb : (r0 != 0) = true := by simpa using hr0
    have HRR := Lib.hid hr0
    clear hr0
    go_wp2_with fail
    go_ret
    have hR := HR.out
    rw [putR, if_pos (by rw [HR0.out]; exact HRR.out), HR0.out] at hR
    rw [← hR]
    exact ⟨rfl, HG.out ▸ HSAME.out _ HM2.out, HM2.out.ofNil⟩
end Go.Proofs.Ytdpaklpaanojpaa

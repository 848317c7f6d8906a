/- cflref6: Put. (Printed by wip/tools/gen_sixput.py.) -/
import Derived.Test.YtjilbnpehgigjaaGreatShort
import Derived.Test.YtjilbnpehgigjaaGreatRefText
namespace Go.Proofs.YtjilbnpehgigjaaGreat
open Go.RowKit
def vlen : Value → Nat
  | .slice _ n _ => n
  | _ => 0
/-- the sectors' marks and bytes, so many rounds, without what fills the last one up -/
def rawTo (t : List UInt8) : Nat → List UInt8
  | 0 => []
  | j + 1 => rawTo t j ++ ((if j = 0 then 1 else 2) :: (t.drop (63 * j)).take 63)
theorem rawTo_length (t : List UInt8) (j : Nat) : (rawTo t j).length = j + min (63 * j) t.length := by
  induction j with
  | zero => rfl
  | succ j ih => rw [rawTo, List.length_append, ih, List.length_cons, List.length_take, List.length_drop]; omega
theorem rawTo_step (t : List UInt8) (k : Nat) (ih : rawTo t k = (sectsTo t k).set 0 1) : rawTo t (k + 1) ++ List.replicate (63 - ((t.drop (63 * k)).take 63).length) 0 = (sectsTo t (k + 1)).set 0 1 := by
  rw [rawTo, sectsTo, ih]
  cases k with
  | zero => simp [sectsTo, sect2, fillTo]
  | succ k =>
    have hl := sectsTo_length t (k + 1)
    rw [List.set_append_left _ _ (by rw [hl]; omega)]
    simp [sect2, fillTo]
theorem rawTo_full (t : List UInt8) (k : Nat) (h : 63 * k ≤ t.length) : rawTo t k = (sectsTo t k).set 0 1 := by
  induction k with
  | zero => rfl
  | succ k ih =>
    have h1 := rawTo_step t k (ih (by omega))
    rw [show 63 - ((t.drop (63 * k)).take 63).length = 0 by rw [List.length_take, List.length_drop]; omega] at h1
    rw [← h1]
    simp
theorem rawTo_put (kind gen seq : Nat) (body : List UInt8) : rawTo (textF kind gen seq body) (sectorsF body.length) ++ List.replicate (64 * sectorsF body.length - (sectorsF body.length + (24 + body.length))) 0 = putF kind gen seq body := by
  have hl := textF_length kind gen seq body
  obtain ⟨t, ht⟩ : ∃ t, textF kind gen seq body = t := ⟨_, rfl⟩
  unfold putF
  rw [ht] at hl ⊢
  obtain ⟨k, hk⟩ : ∃ k, sectorsF body.length = k + 1 := ⟨sectorsF body.length - 1, by unfold sectorsF; omega⟩
  have hk2 : k = (body.length + 86) / 63 - 1 := by rw [← show sectorsF body.length = (body.length + 86) / 63 from rfl]; omega
  rw [hk, ← rawTo_step t k (rawTo_full t k (by omega))]
  congr 2
  rw [List.length_take, List.length_drop]
  omega
theorem sixPutLong (nb cb : Nat) (pb : Option Addr) (kind gen seq : Int) (w : World) (h5 : 60000 < nb) :
    Calls Tryz.prog 10 #[.agg #[.int .i64 kind, .int .i64 gen, .int .i64 seq, .slice pb nb cb]] w fun e w' => e = .returned (.tuple #[.slice none 0 0, .int .i64 3]) ∧ Mod nil w w' := by
  go_enter Tryz.func10, Tryz.ntmps10
  go_wp2_with fail
  refine (sixTextLong nb cb pb kind gen seq _ h5).mono ?_
  rintro e w1 ⟨rfl, m⟩
  have M : Hid (Mod nil w w1) := Lib.hid (((Mod.refl _ _).alloc _).thenNil m)
  clear m
  go_wp2_with fail
  go_ret2
  exact ⟨rfl, M.out⟩
theorem sixPutBad (nb cb : Nat) (pb : Option Addr) (kind gen seq : Int) (w : World) (h4 : nb ≤ 60000) (h : ¬ (0 ≤ kind ∧ kind ≤ 255) ∨ ¬ (0 ≤ gen ∧ gen ≤ 4294967295) ∨ ¬ (0 ≤ seq ∧ seq ≤ 4294967295)) :
    Calls Tryz.prog 10 #[.agg #[.int .i64 kind, .int .i64 gen, .int .i64 seq, .slice pb nb cb]] w fun e w' => e = .returned (.tuple #[.slice none 0 0, .int .i64 1]) ∧ Mod nil w w' := by
  go_enter Tryz.func10, Tryz.ntmps10
  go_wp2_with fail
  refine (sixTextBad nb cb pb kind gen seq _ h4 h).mono ?_
  rintro e w1 ⟨rfl, m⟩
  have M : Hid (Mod nil w w1) := Lib.hid (((Mod.refl _ _).alloc _).thenNil m)
  clear m
  go_wp2_with fail
  go_ret2
  exact ⟨rfl, M.out⟩
set_option maxRecDepth 100000 in
set_option maxHeartbeats 4000000 in
theorem sixPut (kind gen seq nb cb : Nat) (pb : Option Addr) (T : Nat → Prop) (body : List UInt8) (w : World) (hrow : IsRow T w (.slice pb nb cb) (bys body)) (hT : ∀ k, T k → k < w.heap.size)
    (h1 : kind ≤ 255) (h2 : gen ≤ 4294967295) (h3 : seq ≤ 4294967295) (h4 : nb ≤ 60000) :
    Calls Tryz.prog 10 #[.agg #[.int .i64 (kind : Nat), .int .i64 (gen : Nat), .int .i64 (seq : Nat), .slice pb nb cb]] w fun e w' => ∃ p q, e = .returned (.tuple #[.slice p (64 * sectorsF nb) q, .int .i64 0]) ∧ IsVec (fun k => w.heap.size ≤ k) w' 5 1 (.slice p (64 * sectorsF nb) q) (64 * sectorsF nb) (bys (putF kind gen seq body)) ∧ Mod nil w w' := by
  refine (?_ : ∀ Post : Ending → World → Prop, Hid (∀ e w', (∃ p q, e = .returned (.tuple #[.slice p (64 * sectorsF nb) q, .int .i64 0]) ∧ IsVec (fun k => w.heap.size ≤ k) w' 5 1 (.slice p (64 * sectorsF nb) q) (64 * sectorsF nb) (bys (putF kind gen seq body)) ∧ Mod nil w w') → Post e w') → Calls Tryz.prog 10 #[.agg #[.int .i64 (kind : Nat), .int .i64 (gen : Nat), .int .i64 (seq : Nat), .slice pb nb cb]] w Post) _ (Lib.hid (fun _ _ h => h))
  intro Post HPOST
  have hbl : body.length = nb := by
    obtain ⟨_, _, h, _⟩ := hrow
    simp only [Value.slice.injEq, bys_length] at h
    exact h.2.1.symm
  have HBL := Lib.hid hbl
  obtain ⟨K, hK⟩ : ∃ K, sectorsF nb = K := ⟨_, rfl⟩
  rw [hK] at HPOST
  have hK2 : K = (nb + 86) / 63 := hK.symm
  have HKB : 63 * K < 24 + nb + 63 ∧ 24 + nb ≤ 63 * K := by omega
  obtain ⟨TX, hTX⟩ : ∃ t, textF kind gen seq body = t := ⟨_, rfl⟩
  have HTXL : Hid (TX.length = 24 + nb) := Lib.hid (by rw [← hTX, textF_length, hbl])
  have HPUT : Hid (rawTo TX K ++ List.replicate (64 * K - (K + (24 + nb))) 0 = putF kind gen seq body) := Lib.hid (by rw [← hTX, ← rawTo_put, hbl, hK])
  have HTEXT : Hid (∀ W, Mod nil w W → Calls Tryz.prog 37 #[.agg #[.int .i64 (kind : Nat), .int .i64 (gen : Nat), .int .i64 (seq : Nat), .slice pb nb cb]] W fun e w' => ∃ g c, e = .returned (.tuple #[.slice (some ⟨g, 0, none⟩) (24 + nb) c, .int .i64 0]) ∧ 24 + nb ≤ c ∧ c ≤ maxLen ∧ IsVec (fun k => W.heap.size ≤ k) w' 5 1 (.slice (some ⟨g, 0, none⟩) (24 + nb) c) (24 + nb) (bys TX) ∧ Mod nil W w') := Lib.hid (fun W m => by
    refine (sixText kind gen seq nb cb pb T body W (hrow.modNil m) (fun k h => Nat.lt_of_lt_of_le (hT k h) m.size) h1 h2 h3 h4).mono ?_
    rintro e w' ⟨v, rfl, hv, hm⟩
    obtain ⟨p, c, rfl, hc1, hc2⟩ := vecCap hv
    rcases hv.1.2 with ⟨h, -⟩ | ⟨g, cap, cur, hv2, -⟩
    · simp at h
    · simp only [Value.slice.injEq] at hv2
      obtain ⟨rfl, -, rfl⟩ := hv2
      rw [hTX] at hv
      exact ⟨g, c, rfl, hc1, hc2, hv, hm⟩)
  clear hrow hT hbl hTX h1 h2 h3 hK hK2
  go_enter Tryz.func10, Tryz.ntmps10
  go_wp2_with fail
  refine (HTEXT.out _ ((Mod.refl _ _).alloc _)).mono ?_
  rintro e w1 ⟨g, c, rfl, hc1, hc2, hv1, hm1⟩
  have HV1 : Hid (IsVec (fun k => w.heap.size < k) w1 5 1 (.slice (some ⟨g, 0, none⟩) (24 + nb) c) (24 + nb) (bys TX)) := Lib.hid (hv1.mono (fun k _ h => by rw [World.size_alloc] at h; omega))
  have HM1 : Hid (Mod nil w w1) := Lib.hid (((Mod.refl _ _).alloc _).thenNil hm1)
  obtain ⟨L, hL⟩ : ∃ L, 24 + nb = L := ⟨_, rfl⟩
  rw [hL] at HV1 hc1 HKB HTXL HPUT
  have HLB : 24 ≤ L ∧ L ≤ 60024 := by omega
  have HL := Lib.hid hL
  obtain ⟨B, hB⟩ : ∃ B, w1.heap.size = B := ⟨_, rfl⟩
  have HB := Lib.hid hB
  have hgB : g < B := by rw [← hB]; exact (HV1.out.1.lt g rfl).2
  (try rw [hL])
  clear hv1 hm1 hL hB h4
  go_wp2_with fail
  go_loopw [6, 7] (fun v6 v7 wr => ∃ (j q m : Nat) (p : Option Addr) (cq : Nat), j ≤ K ∧ v7 = .int .i64 q ∧ v6 = .slice p m cq ∧ Hid (q = 63 * j) ∧ Hid (m = j + min (63 * j) L) ∧ Hid (IsVec (fun k => B ≤ k) wr 5 1 (.slice p m cq) m (bys (rawTo TX j))) ∧ Hid (Mod nil w1 wr)) (fun _ v _ => 63 * K - (intOf v).toNat)
  case atStart => exact ⟨0, 0, 0, none, 0, by omega, rfl, rfl, Lib.hid rfl, Lib.hid (by simp), Lib.hid (IsVec.nil _ _ _ _), Lib.hid (Mod.refl _ _)⟩
  case round =>
    obtain ⟨j, q, m, p, cq, hj, rfl, rfl, HQ, HMM, HV, HM⟩ := hrel
    have hq := HQ.out
    by_cases hlt : q < L
    · have hmb : m ≤ 70000 := by have := HMM.out; omega
      obtain ⟨X, hX⟩ : ∃ X, min (q + 63) L = X := ⟨_, rfl⟩
      have hX2 : q ≤ X ∧ X ≤ L ∧ q < X ∧ X ≤ q + 63 := by omega
      obtain ⟨Y, hY⟩ : ∃ Y, X - q = Y := ⟨_, rfl⟩
      have hwr : IntKind.i64.wrap ((q : Int) + 63) = (q : Int) + 63 := by rw [IntKind.wrap_i64]; omega
      have hmin : (if (L : Int) < (q : Int) + 63 then (L : Int) else (q : Int) + 63) = (X : Int) := by split <;> omega
      have hmin2 : min ((q : Int) + 63) (L : Int) = (X : Int) := by omega
      have hXc : (X : Int) ≤ (c : Int) ∧ ¬ c = q ∧ q ≤ X := by omega
      obtain ⟨hXc, hcq, hqX⟩ := hXc
      have HX := Lib.hid hX
      have HY := Lib.hid hY
      have HX2 := Lib.hid hX2
      have HLT := Lib.hid hlt
      clear hq hX hX2
      have HYL : Hid (((TX.drop (63 * j)).take 63).length = Y) := Lib.hid (by rw [List.length_take, List.length_drop, HTXL.out]; have := HY.out; have := HX.out; have := HQ.out; omega)
      have HSUB : Hid (∀ W, Mod nil w1 W → IsRow (fun k => w.heap.size < k) W (.slice (some ⟨g, q, none⟩) Y (c - q)) (bys ((TX.drop (63 * j)).take 63))) := Lib.hid (fun W m => by
        have h := row_drop (rowFront (HV1.out.row.modNil m) X (by rw [bys_length, HTXL.out]; exact HX2.out.2.1)) q (by rw [List.length_take, bys_length, HTXL.out]; have := HX2.out; omega)
        rw [HY.out, Nat.zero_add, ← bysTake, ← bys_drop, List.drop_take, HY.out, List.take_eq_take_iff.2 (show min Y (TX.drop q).length = min 63 (TX.drop q).length by rw [List.length_drop, HTXL.out]; have := HY.out; have := HX.out; omega), HQ.out] at h
        rw [HQ.out]
        exact h)
      have HLN : Hid ((rawTo TX j).length = m) := Lib.hid (by rw [rawTo_length, HTXL.out, HMM.out])
      have HK1 : Hid (j + 1 ≤ K) := Lib.hid (by have := HQ.out; have := HLT.out; omega)
      have HMN : Hid (m + 1 + Y = j + 1 + min (63 * (j + 1)) L) := Lib.hid (by have := HQ.out; have := HMM.out; have := HX.out; have := HY.out; have := HLT.out; omega)
      have hYb : Y ≤ 63 := by have := HY.out; have := HX2.out; omega
      clear hlt
      by_cases hz : q = 0
      · have hz1 : decide ((q : Int) = 0) = true := by simp [hz]
        have hz2 : ((q : Int) == 0) = true := by simp [hz]
        have HIF : Hid ((if j = 0 then (1 : UInt8) else 2) = 1) := Lib.hid (by have := HQ.out; rw [if_pos (by omega)])
        clear hz
        go_wp2_with fail
        refine wp_region_held_drew (S := (fun _ => True)) (by kernel_rfl) (trivial) (fun hHeld => ?_)
        refine tH 0 ?_
        (try simp only [Act.put, pT])
        refine tH 1 ?_
        (try simp only [Act.put, pT])
        refine tH 4 ?_
        (try simp only [Act.put, pT])
        refine tH 5 ?_
        (try simp only [Act.put, pT])
        refine tH 6 ?_
        (try simp only [Act.put, pT])
        refine tH 7 ?_
        (try simp only [Act.put, pT])
        refine tH 8 ?_
        (try simp only [Act.put, pT])
        refine tH 9 ?_
        (try simp only [Act.put, pT])
        refine tH 10 ?_
        (try simp only [Act.put, pT])
        refine tH 11 ?_
        (try simp only [Act.put, pT])
        refine wpAnyH_ready (rs := [2]) (by kernel_rfl) (by simp) ?_
        refine AllReadyH.cons (i := 2) rfl (fun K hK => ?_) AllReadyH.nil
        (try dsimp (config := { proj := false }) only [g0, g1, g2])
        go_simp
        obtain ⟨G3, hg3⟩ : ∃ b, wr.heap.size = b := ⟨_, rfl⟩
        (try rw [hg3])
        generalize hw3 : (World.alloc wr _).drew = w3
        have hm3 : Mod nil wr w3 := by rw [← hw3]; exact ((Mod.refl _ _).alloc _).drew
        have hr3 : IsRow (fun k => k = G3) w3 (.slice (some ⟨G3, 0, none⟩) 1 1) (bys [1]) := by
          refine ⟨_, _, rfl, fun i hi => ⟨G3, 0, rfl, rfl, ?_, ?_⟩⟩
          · rw [← hw3]; show G3 < (World.alloc wr _).heap.size; rw [World.size_alloc, hg3]; omega
          · rw [← hw3, ← hg3]
            have : i = 0 := by simp [bys] at hi; omega
            subst this
            exact cell_of (heap_alloc_new wr _) 0
        have hGB : B ≤ G3 := by have := HM.out.size; have := HB.out; omega
        have hs3 : G3 ≤ w3.heap.size := by rw [← hg3]; exact hm3.size
        obtain ⟨px, cx, wx, hrunx, hvx, hmx⟩ := six_append 22 (l := rawTo TX j) (m := [1]) (k := 1) HLN.out rfl (HV.out.modNil hm3) hr3 (by omega)
        have hm1x : Mod nil w1 wx := (HM.out.thenNil hm3).new hmx (fun k hk => by have := HB.out; omega)
        have hrq : IsRow (fun k => w.heap.size < k) wx (.slice (some ⟨g, q, none⟩) Y (c - q)) (bys ((TX.drop (63 * j)).take 63)) := HSUB.out wx hm1x
        obtain ⟨py, cy, wy, hruny, hvy, hmy⟩ := six_append 22 (l := rawTo TX j ++ [1]) (m := (TX.drop (63 * j)).take 63) (n := m + 1) (k := Y) (by rw [List.length_append, HLN.out]; rfl) HYL.out hvx hrq (by omega)
        have HVY : Hid (IsVec (fun k => B ≤ k) wy 5 1 (.slice py (m + 1 + Y) cy) (m + 1 + Y) (bys (rawTo TX (j + 1)))) := Lib.hid (by
          have h := hvy.mono (T := fun k => B ≤ k) (fun k hk h => by have := hmx.size; rcases h with (h | h) | h <;> omega)
          rw [rawTo, HIF.out]
          rw [List.append_assoc] at h
          exact h)
        have HMY : Hid (Mod nil w1 wy) := Lib.hid (hm1x.new hmy (fun k hk => by have := HB.out; rcases hk with h | h <;> omega))
        clear hw3 hm3 hr3 hvx hmx hm1x hrq hvy hmy hg3
        refine hK.out _ _ (trivial) (fun hHeld => ?_)
        clear hK K
        (try simp only [Act.put, pT])
        refine wpAnyH_ready (rs := [3]) (by kernel_rfl) (by simp) ?_
        refine AllReadyH.cons (i := 3) rfl (fun K hK => ?_) AllReadyH.nil
        (try dsimp (config := { proj := false }) only [g0, g1, g2])
        refine step_append_run rfl _ _ _ _ rfl rfl rfl hrunx ?_
        refine hK.out _ _ (trivial) (fun hHeld => ?_)
        clear hK K
        (try simp only [Act.put, pT])
        refine wpAnyH_ready (rs := [12]) (by kernel_rfl) (by simp) ?_
        refine AllReadyH.cons (i := 12) rfl (fun K hK => ?_) AllReadyH.nil
        (try dsimp (config := { proj := false }) only [g0, g1, g2])
        refine step_append_run rfl _ _ _ _ rfl rfl rfl hruny ?_
        refine hK.out _ _ (trivial) (fun hHeld => ?_)
        clear hK K
        (try simp only [Act.put, pT])
        refine tH 13 ?_
        (try simp only [Act.put, pT])
        refine wpAnyH_done (by kernel_rfl) ?_ _
        clear hrunx hruny
        go_wp2_with fail
        exact ⟨⟨j + 1, q + 63, m + 1 + Y, py, cy, HK1.out, by go_num, rfl, Lib.hid (by have := HQ.out; omega), HMN.out, HVY, HMY⟩, by simp [intOf]; have := HLT.out; have := HKB.1; omega⟩
      · have hz1 : decide ((q : Int) = 0) = false := by simp [hz]
        have hz2 : ((q : Int) == 0) = false := by simp [hz]
        have HIF : Hid ((if j = 0 then (1 : UInt8) else 2) = 2) := Lib.hid (by have := HQ.out; rw [if_neg (by omega)])
        clear hz
        go_wp2_with fail
        refine wp_region_held_drew (S := (fun _ => True)) (by kernel_rfl) (trivial) (fun hHeld => ?_)
        refine tH 0 ?_
        (try simp only [Act.put, pT])
        refine tH 1 ?_
        (try simp only [Act.put, pT])
        refine tH 4 ?_
        (try simp only [Act.put, pT])
        refine tH 5 ?_
        (try simp only [Act.put, pT])
        refine tH 6 ?_
        (try simp only [Act.put, pT])
        refine tH 7 ?_
        (try simp only [Act.put, pT])
        refine tH 8 ?_
        (try simp only [Act.put, pT])
        refine tH 9 ?_
        (try simp only [Act.put, pT])
        refine tH 10 ?_
        (try simp only [Act.put, pT])
        refine tH 11 ?_
        (try simp only [Act.put, pT])
        refine wpAnyH_ready (rs := [2]) (by kernel_rfl) (by simp) ?_
        refine AllReadyH.cons (i := 2) rfl (fun K hK => ?_) AllReadyH.nil
        (try dsimp (config := { proj := false }) only [g0, g1, g2])
        go_simp
        obtain ⟨G3, hg3⟩ : ∃ b, wr.heap.size = b := ⟨_, rfl⟩
        (try rw [hg3])
        generalize hw3 : (World.alloc wr _).drew = w3
        have hm3 : Mod nil wr w3 := by rw [← hw3]; exact ((Mod.refl _ _).alloc _).drew
        have hr3 : IsRow (fun k => k = G3) w3 (.slice (some ⟨G3, 0, none⟩) 1 1) (bys [2]) := by
          refine ⟨_, _, rfl, fun i hi => ⟨G3, 0, rfl, rfl, ?_, ?_⟩⟩
          · rw [← hw3]; show G3 < (World.alloc wr _).heap.size; rw [World.size_alloc, hg3]; omega
          · rw [← hw3, ← hg3]
            have : i = 0 := by simp [bys] at hi; omega
            subst this
            exact cell_of (heap_alloc_new wr _) 0
        have hGB : B ≤ G3 := by have := HM.out.size; have := HB.out; omega
        have hs3 : G3 ≤ w3.heap.size := by rw [← hg3]; exact hm3.size
        obtain ⟨px, cx, wx, hrunx, hvx, hmx⟩ := six_append 22 (l := rawTo TX j) (m := [2]) (k := 1) HLN.out rfl (HV.out.modNil hm3) hr3 (by omega)
        have hm1x : Mod nil w1 wx := (HM.out.thenNil hm3).new hmx (fun k hk => by have := HB.out; omega)
        have hrq : IsRow (fun k => w.heap.size < k) wx (.slice (some ⟨g, q, none⟩) Y (c - q)) (bys ((TX.drop (63 * j)).take 63)) := HSUB.out wx hm1x
        obtain ⟨py, cy, wy, hruny, hvy, hmy⟩ := six_append 22 (l := rawTo TX j ++ [2]) (m := (TX.drop (63 * j)).take 63) (n := m + 1) (k := Y) (by rw [List.length_append, HLN.out]; rfl) HYL.out hvx hrq (by omega)
        have HVY : Hid (IsVec (fun k => B ≤ k) wy 5 1 (.slice py (m + 1 + Y) cy) (m + 1 + Y) (bys (rawTo TX (j + 1)))) := Lib.hid (by
          have h := hvy.mono (T := fun k => B ≤ k) (fun k hk h => by have := hmx.size; rcases h with (h | h) | h <;> omega)
          rw [rawTo, HIF.out]
          rw [List.append_assoc] at h
          exact h)
        have HMY : Hid (Mod nil w1 wy) := Lib.hid (hm1x.new hmy (fun k hk => by have := HB.out; rcases hk with h | h <;> omega))
        clear hw3 hm3 hr3 hvx hmx hm1x hrq hvy hmy hg3
        refine hK.out _ _ (trivial) (fun hHeld => ?_)
        clear hK K
        (try simp only [Act.put, pT])
        refine wpAnyH_ready (rs := [3]) (by kernel_rfl) (by simp) ?_
        refine AllReadyH.cons (i := 3) rfl (fun K hK => ?_) AllReadyH.nil
        (try dsimp (config := { proj := false }) only [g0, g1, g2])
        refine step_append_run rfl _ _ _ _ rfl rfl rfl hrunx ?_
        refine hK.out _ _ (trivial) (fun hHeld => ?_)
        clear hK K
        (try simp only [Act.put, pT])
        refine wpAnyH_ready (rs := [12]) (by kernel_rfl) (by simp) ?_
        refine AllReadyH.cons (i := 12) rfl (fun K hK => ?_) AllReadyH.nil
        (try dsimp (config := { proj := false }) only [g0, g1, g2])
        refine step_append_run rfl _ _ _ _ rfl rfl rfl hruny ?_
        refine hK.out _ _ (trivial) (fun hHeld => ?_)
        clear hK K
        (try simp only [Act.put, pT])
        refine tH 13 ?_
        (try simp only [Act.put, pT])
        refine wpAnyH_done (by kernel_rfl) ?_ _
        clear hrunx hruny
        go_wp2_with fail
        exact ⟨⟨j + 1, q + 63, m + 1 + Y, py, cy, HK1.out, by go_num, rfl, Lib.hid (by have := HQ.out; omega), HMN.out, HVY, HMY⟩, by simp [intOf]; have := HLT.out; have := HKB.1; omega⟩
    · obtain rfl : K = j := by omega
      have HM2 : Hid (m = K + L) := Lib.hid (by have := HMM.out; omega)
      have HV2 : Hid (IsVec (fun k => B ≤ k) wr 5 1 (.slice p m cq) m (bys (rawTo TX K ++ List.replicate 0 0))) := Lib.hid (by simpa using HV.out)
      have HR : Hid ((rawTo TX K).length = K + L) := Lib.hid (by rw [rawTo_length, HTXL.out]; omega)
      have HM' := HM
      obtain ⟨wq, rfl⟩ : ∃ wq, wq = wr := ⟨_, rfl⟩
      clear HV HM hq
      go_wp2_with fail
      go_loopw [6] (fun v6 wr => ∃ (z m : Nat) (p : Option Addr) (cq : Nat), v6 = .slice p m cq ∧ Hid (m = K + L + z ∧ m ≤ 64 * K) ∧ Hid (IsVec (fun k => B ≤ k) wr 5 1 (.slice p m cq) m (bys (rawTo TX K ++ List.replicate z 0))) ∧ Hid (Mod nil w1 wr)) (fun v _ => 64 * K - vlen v)
      case atStart => exact ⟨0, m, p, cq, rfl, Lib.hid ⟨by have := HM2.out; omega, by have := HM2.out; omega⟩, HV2, HM'⟩
      case round =>
        clear HM2 HV2 HM'
        obtain ⟨z, m, p, cq, rfl, HMM2, HV, HM⟩ := hrel
        have hmK := HMM2.out
        by_cases he : m = 64 * K
        · have hd : ((m : Int) % 64 != 0) = false := by simp; omega
          have HF : Hid (IsVec (fun k => w.heap.size ≤ k) wr 5 1 (.slice p m cq) m (bys (putF kind gen seq body)) ∧ Mod nil w wr) := Lib.hid (by
            refine ⟨?_, HM1.out.thenNil HM.out⟩
            have hz : z = 64 * K - (K + L) := by omega
            have h := HV.out
            rw [hz, HPUT.out] at h
            exact h.mono (fun k hk h => by have := HB.out; have := HM1.out.size; omega))
          have HE := Lib.hid he
          clear HV HM he hmK
          go_wp2_with fail
          obtain ⟨f1, f2⟩ := HF.out
          rw [HE.out] at f1 ⊢
          exact HPOST.out _ _ ⟨_, _, rfl, f1, f2⟩
        · have hd : ((m : Int) % 64 != 0) = true := by simp; omega
          obtain ⟨w3, hw3⟩ : ∃ W, World.alloc wr (.cells #[.int .u8 0] 5) = W := ⟨_, rfl⟩
          obtain ⟨G3, hg3⟩ : ∃ b, wr.heap.size = b := ⟨_, rfl⟩
          have hm3 : Mod nil wr w3 := by rw [← hw3]; exact (Mod.refl _ _).alloc _
          have hr3 : IsRow (fun k => k = G3) w3 (.slice (some ⟨G3, 0, none⟩) 1 1) (bys [0]) := by
            refine ⟨_, _, rfl, fun i hi => ⟨G3, 0, rfl, rfl, ?_, ?_⟩⟩
            · rw [← hw3, World.size_alloc, hg3]; omega
            · rw [← hw3, ← hg3]
              have : i = 0 := by simp [bys] at hi; omega
              subst this
              exact cell_of (heap_alloc_new wr _) 0
          have hGB : B ≤ G3 := by have := HM.out.size; have := HB.out; omega
          have hs3 : G3 ≤ w3.heap.size := by rw [← hg3]; exact hm3.size
          obtain ⟨px, cx, wx, hrunx, hvx, hmx⟩ := six_append 22 (l := rawTo TX K ++ List.replicate z 0) (m := [0]) (n := m) (k := 1) (by rw [List.length_append, HR.out, List.length_replicate]; exact hmK.1.symm) rfl (HV.out.modNil hm3) hr3 (by omega)
          have HVX : Hid (IsVec (fun k => B ≤ k) wx 5 1 (.slice px (m + 1) cx) (m + 1) (bys (rawTo TX K ++ List.replicate (z + 1) 0))) := Lib.hid (by
            rw [List.replicate_succ', ← List.append_assoc]
            exact hvx.mono (fun k hk h => by omega))
          have HMX : Hid (Mod nil w1 wx) := Lib.hid ((HM.out.thenNil hm3).new hmx (fun k hk => by have := HB.out; omega))
          have HN : Hid (m + 1 = K + L + (z + 1) ∧ m + 1 ≤ 64 * K ∧ m < 64 * K) := Lib.hid (by omega)
          rw [← hg3, ← hw3] at hrunx
          have HRUN := Lib.hid hrunx
          clear hw3 hm3 hr3 hvx hmx HV HM hrunx he hmK hGB hs3 hg3
          go_wp2_with (first | (at_builtin; refine wpList_append_run rfl _ _ _ _ rfl rfl rfl HRUN.out ?_))
          exact ⟨⟨z + 1, m + 1, px, cx, rfl, Lib.hid ⟨HN.out.1, HN.out.2.1⟩, HVX, HMX⟩, by simp only [vlen]; have := HN.out; omega⟩
end Go.Proofs.YtjilbnpehgigjaaGreat

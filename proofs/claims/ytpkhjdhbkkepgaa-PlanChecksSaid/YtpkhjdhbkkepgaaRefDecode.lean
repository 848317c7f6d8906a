/- cflref18.Decode. (Printed by wip/tools/gen_refdecode.py.) -/
import Derived.Test.YtpkhjdhbkkepgaaRefDec
import Derived.Test.YtpkhjdhbkkepgaaRefMake
import Derived.Test.YtpkhjdhbkkepgaaLawPlan
namespace Go.Proofs.Ytpkhjdhbkkepgaa
open Go.RowKit

def legsR : Nat → List UInt8 → Int → List (List It) × List UInt8 × Int
  | 0, l, e => ([], l, e)
  | n + 1, l, e => if e = 0 then
      let k := decN l 0 1
      let r := itemsF k.1.toNat k.2.1 k.2.2
      (r.1 :: (legsR n r.2.1 r.2.2).1, (legsR n r.2.1 r.2.2).2)
    else ([], l, e)
theorem legsR_go {n k : Nat} {l l2 l3 : List UInt8} {e2 e3 : Int} {x : List It} (hn : 0 < n) (h : decN l 0 1 = ((k : Int), l2, e2)) (h2 : itemsF k l2 e2 = (x, l3, e3)) : legsR n l 0 = (x :: (legsR (n - 1) l3 e3).1, (legsR (n - 1) l3 e3).2) := by
  obtain ⟨m, rfl⟩ : ∃ m, n = m + 1 := ⟨n - 1, by omega⟩
  simp [legsR, h, h2]
theorem legsR_end {n : Nat} {l : List UInt8} {e : Int} (h : n = 0 ∨ e ≠ 0) : legsR n l e = ([], l, e) := by
  cases n with
  | zero => rfl
  | succ n => rcases h with h | h <;> simp_all [legsR]
def refDecF (b : List UInt8) : Pl × Int :=
  let d0 := decN b 0 2
  let d1 := decN d0.2.1 d0.2.2 1
  let ps := partsF d1.1.toNat d1.2.1 d1.2.2
  let ls := legsR d1.1.toNat ps.2.1 ps.2.2
  let h := rawN ls.2.1 ls.2.2 32
  let s0 := decN h.2.1 h.2.2 8
  let s1 := decN s0.2.1 s0.2.2 2
  let s2 := decN s1.2.1 s1.2.2 2
  if s2.2.2 ≠ 0 ∨ s2.2.1.length ≠ 0 then (Pl.zero, 2) else
  let M := makeN d0.1 ps.1 ls.1 h.1 s0.1 s1.1 s2.1
  if M.2 = 0 then (M.1, 0) else (Pl.zero, 2)
set_option maxRecDepth 100000 in
set_option maxHeartbeats 8000000 in
theorem refDecode (p : Option Addr) (N c : Nat) (b : List UInt8) (w : World) (hrow : IsRow (· < w.heap.size) w (.slice p N c) (bys b)) (hN : N ≤ 1000000) (hc : N ≤ c) (hcm : c ≤ maxLen) :
    Calls Try.prog 29 #[.slice p N c] w fun e w' => ∃ v, e = .returned (.tuple #[v, .int .i64 (refDecF b).2]) ∧ IsPl (fun k => w.heap.size ≤ k) w' v (refDecF b).1 ∧ Mod nil w w' := by
  refine (?_ : ∀ Post : Ending → World → Prop, Hid (∀ e w', (∃ v, e = .returned (.tuple #[v, .int .i64 (refDecF b).2]) ∧ IsPl (fun k => w.heap.size ≤ k) w' v (refDecF b).1 ∧ Mod nil w w') → Post e w') → Calls Try.prog 29 #[.slice p N c] w Post) _ (Lib.hid (fun _ _ h => h))
  intro Post HPOST
  obtain ⟨G, hG⟩ : ∃ r, w.heap.size = r := ⟨_, rfl⟩
  have HROW := Lib.hid hrow
  have hnb : b.length = N := by obtain ⟨_, _, h, _⟩ := hrow; simp only [Value.slice.injEq, bys_length] at h; exact h.2.1.symm
  have HNB := Lib.hid hnb
  clear hrow hnb
  go_enter Try.func29, Try.ntmps29
  go_upto_region 1 with (fail)
  (try rw [hG])
  generalize hw1 : World.alloc w _ = w1
  have hm1 : Mod nil w w1 := by rw [← hw1]; exact (Mod.refl _ _).alloc _
  have hb1 : w1.heap[G]? = some (.cells #[.int .i64 0, .slice none 0 0, .slice none 0 0, .string ⟨#[]⟩, .int .i64 0, .int .i64 0, .int .i64 0, .slice none 0 0] 30 (0, 0)) := by rw [← hw1, ← hG]; exact heap_alloc_new _ _
  have hG1 : G < w1.heap.size := heap_lt hb1
  have HZ1 := Lib.hid hb1
  have HM1 := Lib.hid hm1
  have HGE : Hid (w.heap.size = G) := Lib.hid hG
  have HFAIL : Hid (refDecF b = (Pl.zero, 2) → ∀ W, Mod (fun k => G < k) w1 W → W.heap[G]? = some (.cells #[.int .i64 0, .slice none 0 0, .slice none 0 0, .string ⟨#[]⟩, .int .i64 0, .int .i64 0, .int .i64 0, .slice none 0 0] 30 (0, 0)) ∧ Post (.returned (.tuple #[.agg #[.int .i64 0, .slice none 0 0, .slice none 0 0, .string ⟨#[]⟩, .int .i64 0, .int .i64 0, .int .i64 0, .slice none 0 0], .int .i64 2])) (W.setRow G #[.int .i64 0, .slice none 0 0, .slice none 0 0, .string ⟨#[]⟩, .int .i64 0, .int .i64 0, .int .i64 0, .slice none 0 0])) := Lib.hid (fun he W hm => ⟨(hm.block G hG1 (fun h => Nat.lt_irrefl _ h)).trans HZ1.out, HPOST.out _ _ ⟨_, by rw [he], by rw [he]; exact IsPl.zero _ _, (HM1.out.new hm (fun k h => by have := HGE.out; have h : G < k := h; omega)).trans ((Mod.refl (· = G) W).rowSet G _ (fun _ => rfl)) (fun k hk e => by have := HGE.out; omega)⟩⟩)
  clear hw1 hm1 hb1 hG
  go_upto_region 2 with (fail)
  obtain ⟨db, hdb⟩ : ∃ x, w1.heap.size = x := ⟨_, rfl⟩
  (try rw [hdb])
  generalize hw2 : World.alloc w1 _ = w2
  have m2 : Mod nil w1 w2 := by rw [← hw2]; exact (Mod.refl _ _).alloc _
  have hbd : w2.heap[db]? = some (.cells #[.slice p N c, .int .i64 0] 85 (0, 0)) := by rw [← hw2, ← hdb]; exact heap_alloc_new _ _
  have hdbG : G < db := by omega
  have HD : Hid (IsRDec (fun k => k < G) w2 db b 0) := Lib.hid ⟨p, c, by rw [HNB.out]; exact hc, hcm, by rw [HNB.out]; exact hbd, by rw [HNB.out]; exact ((HROW.out.modNil HM1.out).mono (T := (fun k => k < G)) (fun k hk h => by have h : k < w.heap.size := h; have := HGE.out; show k < G; omega)).modNil m2⟩
  have HX : Hid (Mod (fun k => G < k) w1 w2) := Lib.hid m2.ofNil
  have hs2 := m2.size
  have hdl := heap_lt hbd
  clear m2 hw2 hbd hdb
  obtain ⟨deal, l1, e1, hd0⟩ : ∃ x l2 e2, decN b 0 2 = (x, l2, e2) := ⟨_, _, _, rfl⟩
  obtain ⟨x1, l2, e2, hd1⟩ : ∃ x l2 e2, decN l1 e1 1 = (x, l2, e2) := ⟨_, _, _, rfl⟩
  have lo1 : 0 ≤ x1 := by have h := decN_lo l1 e1 1; rw [hd1] at h; exact h
  have hi1 : x1 ≤ 255 := by have h := decN_hi l1 e1; rw [hd1] at h; exact h
  obtain ⟨n0, rfl⟩ := Int.eq_ofNat_of_zero_le lo1
  have HD0 := Lib.hid hd0
  have HD1 := Lib.hid hd1
  clear lo1 hd0 hd1
  go_wp2_with fail
  refine (refDNum _ db b 0 2 2 w2 HD.out (fun h => by have h : db < G := h; omega) rfl (by omega) (by omega) HD0.out).mono ?_
  rintro e' w3 ⟨rfl, hdx, m2⟩
  have HDx := Lib.hid hdx
  clear HD hdx
  have HD := HDx
  clear HDx
  have HX2 := Lib.hid (HX.out.trans m2 (fun k _ (e : k = db) => by show G < k; omega))
  clear HX
  have HX := HX2
  clear HX2
  have hs3 := m2.size
  clear m2
  go_wp2_with fail
  refine (refDNum _ db l1 e1 1 1 w3 HD.out (fun h => by have h : db < G := h; omega) rfl (by omega) (by omega) HD1.out).mono ?_
  rintro e' w4 ⟨rfl, hdx, m2⟩
  have HDx := Lib.hid hdx
  clear HD hdx
  have HD := HDx
  clear HDx
  have HX2 := Lib.hid (HX.out.trans m2 (fun k _ (e : k = db) => by show G < k; omega))
  clear HX
  have HX := HX2
  clear HX2
  have hs4 := m2.size
  clear m2
  go_upto_region 5 with (fail)
  obtain ⟨rb, hrb⟩ : ∃ x, w4.heap.size = x := ⟨_, rfl⟩
  (try rw [hrb])
  generalize hw5 : World.alloc w4 _ = w5
  have m5 : Mod nil w4 w5 := by rw [← hw5]; exact (Mod.refl _ _).alloc _
  have hdp : db < rb := by omega
  have HB : Hid (w5.heap[rb]? = some (.cells #[.slice none 0 0, .slice none 0 0] 25 (0, 0))) := Lib.hid (by rw [← hw5, ← hrb]; exact heap_alloc_new _ _)
  have HV : Hid (IsVec (fun k => rb < k) w5 3 1 (.slice none 0 0) 0 (([] : List Int).map (.int .i64))) := Lib.hid (IsVec.nil _ _ _ _)
  have HDx := Lib.hid (HD.out.mod m5 (fun h => h) (fun _ _ _ h => h))
  have HXx := Lib.hid (HX.out.thenNil m5)
  clear HD HX m5 hw5 hrb hs2 hs3 hs4 hdl
  have HD := HDx
  have HX := HXx
  clear HDx HXx
  go_wp2_with fail
  go_loopw [8] (fun v wr => ∃ (i : Nat) (l : List UInt8) (e : Int) (pp : Option Addr) (cc : Nat) (acc : List Int), v = .int .i64 i ∧ i ≤ n0 ∧ Hid (partsF n0 l2 e2 = (acc ++ (partsF (n0 - i) l e).1, (partsF (n0 - i) l e).2)) ∧ Hid (IsRDec (fun k => k < G) wr db l e) ∧ Hid (wr.heap[rb]? = some (.cells #[.slice pp i cc, .slice none 0 0] 25 (0, 0))) ∧ Hid (IsVec (fun k => rb < k) wr 3 1 (.slice pp i cc) i (acc.map (.int .i64))) ∧ Hid (Mod (fun k => G < k) w1 wr)) (fun v _ => n0 - (intOf v).toNat)
  case atStart => exact ⟨0, l2, e2, none, 0, [], rfl, by omega, Lib.hid rfl, HD, HB, HV, HX⟩
  case round =>
    clear HD HB HV HX
    obtain ⟨i, l, e, pp, cc, acc, rfl, hi, HP, HD, HB, HV, HX⟩ := hrel
    have hpbl := heap_lt HB.out
    obtain ⟨g, hg⟩ : ∃ g, decide (i < n0 ∧ e = 0) = g := ⟨_, rfl⟩
    have HGT := Lib.hid hg
    clear hg
    go_upto_region 6 with (fail)
    go_cut [26, 27, 28, 29, 30, 31, 32, 33, 34, 35] from 116 (fun _ _ _ _ _ _ _ _ _ s wx => wr = wx ∧ s = .bool g)
    case first =>
      obtain ⟨pd, qd, -, -, hbd, -⟩ := HD.out.ex
      have ce := cell_of hbd 1
      simp only [List.getElem?_toArray, List.getElem?_cons_zero, List.getElem?_cons_succ] at ce
      clear hbd
      by_cases hn0 : i < n0
      · by_cases he : e = 0
        · subst he
          obtain rfl : true = g := by rw [← HGT.out]; simp [hn0]
          go_wp2_with fail
          go_meet
          exact ⟨rfl, rfl⟩
        · obtain rfl : false = g := by rw [← HGT.out]; simp [he]
          have hb : (e == 0) = false := by simp [he]
          go_wp2_with fail
          go_meet
          exact ⟨rfl, rfl⟩
      · obtain rfl : false = g := by rw [← HGT.out]; simp [hn0]
        go_wp2_with fail
        go_meet
        exact ⟨rfl, rfl⟩
    case rest =>
    obtain ⟨rfl, rfl⟩ := hcut
    by_cases hgo : i < n0 ∧ e = 0
    · obtain rfl : true = g := by rw [← HGT.out]; exact (decide_eq_true hgo).symm
      obtain ⟨hn0, rfl⟩ := hgo
      obtain ⟨x, l', e', hdn⟩ : ∃ x l2 e2, decN l 0 1 = (x, l2, e2) := ⟨_, _, _, rfl⟩
      have HDN := Lib.hid hdn
      have c1 := cell_of HB.out 0
      simp only [List.getElem?_toArray, List.getElem?_cons_zero, List.getElem?_cons_succ] at c1
      have HPN : Hid (partsF n0 l2 e2 = ((acc ++ [x]) ++ (partsF (n0 - (i + 1)) l' e').1, (partsF (n0 - (i + 1)) l' e').2)) := Lib.hid (by
        rw [HP.out, partsF_go (by omega) hdn, show n0 - i - 1 = n0 - (i + 1) by omega]
        simp)
      clear hdn HP HGT
      go_upto_region 8 with (fail)
      refine region_till (fun w' => w'.cell? ⟨rb, 0, none⟩ = some (.slice pp i cc)) 7 (by kernel_rfl) ?_
      refine till_free (i := 0) (v := ?_) rfl (by kernel_rfl) (by kernel_rfl) (by kernel_rfl) (by kernel_rfl) (fun _ _ _ h => h) (Or.inl ⟨by kernel_rfl, ?_⟩) (fun _ => c1) ?_
      rotate_left
      · intro w _; (first | (go_simp; done) | (go_simp; with_reducible rfl))
      (try simp only [Act.put]); (try simp only [List.setIfInBounds_toArray])
      refine till_take (i := 1) (v := ?_) rfl (by kernel_rfl) (by kernel_rfl) (by kernel_rfl) (by kernel_rfl) (by kernel_rfl) (by kernel_rfl) (fun _ _ _ h => h) (Or.inl ⟨by kernel_rfl, ?_⟩) (c1) ?_
      rotate_left
      · intro w hSw; (try dsimp only at hSw); (first | (go_simp; done) | (go_simp; with_reducible rfl))
      (try simp only [Act.put]); (try simp only [List.setIfInBounds_toArray])
      refine till_free (i := 2) (v := ?_) rfl (by kernel_rfl) (by kernel_rfl) (by kernel_rfl) (by kernel_rfl) (fun _ _ _ h => h) (Or.inl ⟨by kernel_rfl, ?_⟩) (fun _ => c1) ?_
      rotate_left
      · intro w _; (first | (go_simp; done) | (go_simp; with_reducible rfl))
      (try simp only [Act.put]); (try simp only [List.setIfInBounds_toArray])
      refine till_ready (rs := [3]) (by kernel_rfl) (by simp) ?_
      refine till_cons (i := 3) rfl (fun K hK => ?_) till_nil
      (try dsimp (config := { proj := false }) only [List.getElem_toArray, List.getElem_cons_succ, List.getElem_cons_zero])
      go_simp
      refine (refDNum _ db l 0 1 1 _ (HD.out.mod ((Mod.refl nil wr).drew) (fun h => h) (fun _ _ _ h => h)) (fun h => by have h : db < G := h; omega) rfl (by omega) (by omega) HDN.out).mono ?_
      rintro e' w6 ⟨rfl, hdx, m2⟩
      have m2 : Mod (· = db) wr w6 := (show Mod nil wr wr.drew from (Mod.refl nil wr).drew).ofNil.trans m2 (fun _ _ h => h)
      have HDx := Lib.hid hdx
      clear HD hdx
      have HD := HDx
      clear HDx
      have HB2 := Lib.hid ((m2.block rb (heap_lt HB.out) (by omega)).trans HB.out)
      clear HB
      have HB := HB2
      clear HB2
      have HV2 := Lib.hid (HV.out.mod m2 (fun k _ h (e : k = db) => by have h : rb < k := h; omega))
      clear HV
      have HV := HV2
      clear HV2
      have HX2 := Lib.hid (HX.out.trans m2 (fun k _ (e : k = db) => by show G < k; omega))
      clear HX
      have HX := HX2
      clear HX2
      have c1' := cell_of HB.out 0
      simp only [List.getElem?_toArray, List.getElem?_cons_zero, List.getElem?_cons_succ] at c1'
      clear m2
      refine hK.out _ _ (fun _ => c1') ?_
      clear hK K
      (try simp only [Act.put, List.setIfInBounds_toArray, List.set_cons_zero, List.set_cons_succ])
      refine till_ready (rs := [4]) (by kernel_rfl) (by simp) ?_
      refine till_cons (i := 4) rfl (fun K hK => ?_) till_nil
      (try dsimp (config := { proj := false }) only [List.getElem_toArray, List.getElem_cons_succ, List.getElem_cons_zero])
      go_simp
      obtain ⟨g6, hg6⟩ : ∃ g, w6.heap.size = g := ⟨_, rfl⟩
      (try rw [hg6])
      generalize hw7 : World.alloc w6 _ = w7
      have m7 : Mod nil w6 w7 := by rw [← hw7]; exact (Mod.refl _ _).alloc _
      have hx7 : IsCells (· = g6) w7 (.slice (some ⟨g6, 0, none⟩) 1 1) 1 [.int .i64 x] := by rw [← hw7]; exact cells_one_at w6 _ _ g6 hg6
      have HBx := Lib.hid (m7.keep HB.out)
      have HVx := Lib.hid (HV.out.modNil m7)
      have HDx := Lib.hid (HD.out.mod m7 (fun h => h) (fun _ _ _ h => h))
      have HXx := Lib.hid (HX.out.thenNil m7)
      clear HB HV HD HX
      have HB := HBx
      have HV := HVx
      have HD := HDx
      have HX := HXx
      clear HBx HVx HDx HXx hw7 m7 hg6
      have c1'' := cell_of HB.out 0
      simp only [List.getElem?_toArray, List.getElem?_cons_zero, List.getElem?_cons_succ] at c1''
      refine hK.out _ _ (fun _ => c1'') ?_
      clear hK K
      (try simp only [Act.put, List.setIfInBounds_toArray, List.set_cons_zero, List.set_cons_succ])
      refine till_ready (rs := [5]) (by kernel_rfl) (by simp) ?_
      refine till_cons (i := 5) rfl (fun K hK => ?_) till_nil
      (try dsimp (config := { proj := false }) only [List.getElem_toArray, List.getElem_cons_succ, List.getElem_cons_zero])
      obtain ⟨i0, hi0, hz0, hz1, hz2⟩ := info_parts info_int
      refine step_append_vec (S := fun k => rb < k) rfl _ _ _ rfl 3 i0 _ 1 8 Try.underlying22 hi0 hz0 hz1 hz2 rfl (by omega) _ i (acc.map (.int .i64)) rfl HV.out _ 1 _ rfl hx7 rfl (by intro u hu; rw [List.mem_singleton.1 hu]; rfl) (by unfold maxLen; omega) (by omega) ?_
      intro v8 w8 hv8 m8
      obtain ⟨p8, q8, rfl⟩ := hv8.form
      have HBx := Lib.hid ((m8.block rb (heap_lt HB.out) (fun h => Nat.lt_irrefl _ h)).trans HB.out)
      have HVx : Hid (IsVec (fun k => rb < k) w8 3 1 (.slice p8 (i + 1) q8) (i + 1) ((acc ++ [x]).map (.int .i64))) := Lib.hid (by
        rw [List.map_append]
        exact hv8.mono (fun k hk h => h.elim id (fun h => by have := heap_lt HB.out; omega)))
      have HDx := Lib.hid (HD.out.mod m8 (fun h => by have h : rb < db := h; omega) (fun k _ h1 h2 => by have h1 : k < G := h1; have h2 : rb < k := h2; omega))
      have HXx := Lib.hid (HX.out.trans m8 (fun k _ h => by have h : rb < k := h; show G < k; omega))
      clear HB HV HD HX hv8 m8 hi0 hz0 hz1 hz2 hx7
      have HB := HBx
      have HV := HVx
      have HD := HDx
      have HX := HXx
      clear HBx HVx HDx HXx
      have c8 := cell_of HB.out 0
      have z8 := free_of HB.out 0
      simp only [List.getElem?_toArray, List.getElem?_cons_zero, List.getElem?_cons_succ] at c8
      refine hK.out _ _ (fun _ => c8) ?_
      clear hK K
      (try simp only [Act.put, List.setIfInBounds_toArray, List.set_cons_zero, List.set_cons_succ])
      refine till_free (i := 6) (v := ?_) rfl (by kernel_rfl) (by kernel_rfl) (by kernel_rfl) (by kernel_rfl) (fun _ _ _ h => h) (Or.inl ⟨by kernel_rfl, ?_⟩) (fun _ => c8) ?_
      rotate_left
      · intro w _; (first | (go_simp; done) | (go_simp; with_reducible rfl))
      (try simp only [Act.put]); (try simp only [List.setIfInBounds_toArray])
      refine till_ready (rs := [7]) (by kernel_rfl) (by simp) ?_
      refine till_cons (i := 7) rfl (fun K hK => ?_) till_nil
      (try dsimp (config := { proj := false }) only [List.getElem_toArray, List.getElem_cons_succ, List.getElem_cons_zero])
      go_simp
      refine hK.out _ _ (fun h => (by simp at h)) ?_
      clear hK K
      (try simp only [Act.put, List.setIfInBounds_toArray, List.set_cons_zero, List.set_cons_succ])
      refine till_done (by kernel_rfl) ?_ _
      clear c1 c1' c1'' m2
      generalize hw9 : World.setCell w8 _ _ = w9
      have m9 : Mod (· = rb) w8 w9 := by rw [← hw9]; exact (Mod.refl (· = rb) w8).setCell _ _ (fun _ => rfl)
      have HB9 : Hid (w9.heap[rb]? = some (.cells #[.slice p8 (i + 1) q8, .slice none 0 0] 25 (0, 0))) := Lib.hid (by rw [← hw9]; exact heap_setCell_same HB.out _ (off := 0))
      have HV9 := Lib.hid (HV.out.mod m9 (fun k _ h (e : k = rb) => by have h : rb < k := h; omega))
      have HD9 := Lib.hid (HD.out.mod m9 (fun (h : db = rb) => by omega) (fun k _ h (e : k = rb) => by have h : k < G := h; omega))
      have HX9 := Lib.hid (HX.out.trans m9 (fun k _ (e : k = rb) => by show G < k; omega))
      clear hw9 m9 c8 z8 HB HV HD HX
      go_wp2_with fail
      exact ⟨⟨i + 1, l', e', p8, q8, acc ++ [x], by go_num, by omega, HPN, HD9, HB9, HV9, HX9⟩, by simp [intOf]; omega⟩
    · obtain rfl : false = g := by rw [← HGT.out]; exact (decide_eq_false hgo).symm
      have HPEA : Hid (partsF n0 l2 e2 = (acc, l, e)) := Lib.hid (by
        have h := partsF_end (n := n0 - i) (l := l) (e := e) (by by_cases h : n0 - i = 0
                                                                 · exact .inl h
                                                                 · exact .inr (fun h2 => hgo ⟨by omega, h2⟩))
        rw [HP.out, h]
        simp)
      have hm255 : i ≤ 255 := by omega
      clear hgo HP HGT hi
      obtain ⟨l3, rfl⟩ : ∃ x, x = l := ⟨_, rfl⟩
      obtain ⟨e3, rfl⟩ : ∃ x, x = e := ⟨_, rfl⟩
      obtain ⟨m, rfl⟩ : ∃ x, x = i := ⟨_, rfl⟩
      obtain ⟨w9, rfl⟩ : ∃ x, x = wr := ⟨_, rfl⟩
      have hpsl : acc.length = m := by have h := HV.out.len; rw [List.length_map] at h; omega
      have HPSL := Lib.hid hpsl
      clear hpsl
      obtain ⟨H2, hH2⟩ : ∃ h, w9.heap.size = h := ⟨_, rfl⟩
      have hpH : rb < H2 := by omega
      have HVF : Hid (IsVec (fun k => rb < k ∧ k < H2) w9 3 1 (.slice pp m cc) m (acc.map (.int .i64))) := Lib.hid (HV.out.mono (fun k hk h => ⟨h, by omega⟩))
      have HL : Hid (IsLegsV (fun k => H2 ≤ k) w9 (.slice none 0 0) 0 []) := Lib.hid (IsLegsV.nil _ _)
      have HS0 : Hid (H2 ≤ w9.heap.size) := Lib.hid (by omega)
      clear HV hH2 hpbl
      go_wp2_with fail
      go_loopw [9] (fun v wr => ∃ (i : Nat) (l : List UInt8) (e : Int) (ql : Option Addr) (cl : Nat) (ls : List (List It)), v = .int .i64 i ∧ i ≤ n0 ∧ Hid (legsR n0 l3 e3 = (ls ++ (legsR (n0 - i) l e).1, (legsR (n0 - i) l e).2)) ∧ Hid (∀ x ∈ ls, x.length ≤ 255) ∧ Hid (H2 ≤ wr.heap.size) ∧ Hid (IsRDec (fun k => k < G) wr db l e) ∧ Hid (wr.heap[rb]? = some (.cells #[.slice pp m cc, .slice ql i cl] 25 (0, 0))) ∧ Hid (IsVec (fun k => rb < k ∧ k < H2) wr 3 1 (.slice pp m cc) m (acc.map (.int .i64))) ∧ Hid (IsLegsV (fun k => H2 ≤ k) wr (.slice ql i cl) i ls) ∧ Hid (Mod (fun k => G < k) w1 wr)) (fun v _ => n0 - (intOf v).toNat)
      case atStart => exact ⟨0, l3, e3, none, 0, [], rfl, by omega, Lib.hid rfl, Lib.hid (fun x hx => by simp at hx), HS0, HD, HB, HVF, HL, HX⟩
      case round =>
        clear HD HB HVF HL HX
        obtain ⟨i, l, e, ql, cl, ls, rfl, hi, HP, HLB, HS, HD, HB, HVF, HL, HX⟩ := hrel
        obtain ⟨g, hg⟩ : ∃ g, decide (i < n0 ∧ e = 0) = g := ⟨_, rfl⟩
        have HGT := Lib.hid hg
        clear hg
        go_upto_region 10 with (fail)
        go_cut [45, 46, 47, 48, 49, 50, 51, 52, 53, 54] from 116 (fun _ _ _ _ _ _ _ _ _ s wx => wr = wx ∧ s = .bool g)
        case first =>
          obtain ⟨pd, qd, -, -, hbd, -⟩ := HD.out.ex
          have ce := cell_of hbd 1
          simp only [List.getElem?_toArray, List.getElem?_cons_zero, List.getElem?_cons_succ] at ce
          clear hbd
          by_cases hn0 : i < n0
          · by_cases he : e = 0
            · subst he
              obtain rfl : true = g := by rw [← HGT.out]; simp [hn0]
              go_wp2_with fail
              go_meet
              exact ⟨rfl, rfl⟩
            · obtain rfl : false = g := by rw [← HGT.out]; simp [he]
              have hb : (e == 0) = false := by simp [he]
              go_wp2_with fail
              go_meet
              exact ⟨rfl, rfl⟩
          · obtain rfl : false = g := by rw [← HGT.out]; simp [hn0]
            go_wp2_with fail
            go_meet
            exact ⟨rfl, rfl⟩
        case rest =>
        obtain ⟨rfl, rfl⟩ := hcut
        by_cases hgo : i < n0 ∧ e = 0
        · obtain rfl : true = g := by rw [← HGT.out]; exact (decide_eq_true hgo).symm
          obtain ⟨hlt, rfl⟩ := hgo
          obtain ⟨x1, l', e', hd1⟩ : ∃ x l2 e2, decN l 0 1 = (x, l2, e2) := ⟨_, _, _, rfl⟩
          have lo1 : 0 ≤ x1 := by have h := decN_lo l 0 1; rw [hd1] at h; exact h
          have hi1 : x1 ≤ 255 := by have h := decN_hi l 0; rw [hd1] at h; exact h
          obtain ⟨k0, rfl⟩ := Int.eq_ofNat_of_zero_le lo1
          have HDN := Lib.hid hd1
          have hsa := HS.out
          clear lo1 hd1 HGT
          obtain ⟨wa, rfl⟩ : ∃ x, x = wr := ⟨_, rfl⟩
          go_wp2_with fail
          refine (refDNum _ db l 0 1 1 wa HD.out (fun h => by have h : db < G := h; omega) rfl (by omega) (by omega) HDN.out).mono ?_
          rintro e' w10 ⟨rfl, hdx, m2⟩
          have HDx := Lib.hid hdx
          clear HD hdx
          have HD := HDx
          clear HDx
          have HB2 := Lib.hid ((m2.block rb (heap_lt HB.out) (by omega)).trans HB.out)
          clear HB
          have HB := HB2
          clear HB2
          have HVF2 := Lib.hid (HVF.out.mod m2 (fun k _ h (e : k = db) => by have := h.1; omega))
          clear HVF
          have HVF := HVF2
          clear HVF2
          have HL2 := Lib.hid (HL.out.mod m2 (fun k _ h (e : k = db) => by have h : H2 ≤ k := h; omega))
          clear HL
          have HL := HL2
          clear HL2
          have HX2 := Lib.hid (HX.out.trans m2 (fun k _ (e : k = db) => by show G < k; omega))
          clear HX
          have HX := HX2
          clear HX2
          have hs10 := m2.size
          clear m2
          obtain ⟨Hr, hHr⟩ : ∃ h, w10.heap.size = h := ⟨_, rfl⟩
          have hH2r : H2 ≤ Hr := by omega
          have hpr : rb < Hr := by have := heap_lt HB.out; omega
          have HLF : Hid (IsLegsV (fun k => H2 ≤ k ∧ k < Hr) w10 (.slice ql i cl) i ls) := Lib.hid (HL.out.mono (fun k hk h => ⟨h, by omega⟩))
          have HI : Hid (IsVec (fun k => Hr ≤ k) w10 64 3 (.slice none 0 0) 0 (its [])) := Lib.hid (IsVec.nil _ _ _ _)
          clear HL hsa hs10 HS
          have HS : Hid (Hr ≤ w10.heap.size) := Lib.hid (by omega)
          clear hHr
          go_wp2_with fail
          go_loopw [10, 12] (fun v7 v8 wr => ∃ (j : Nat) (l : List UInt8) (e : Int) (qi : Option Addr) (ci : Nat) (is : List It), v8 = .int .i64 j ∧ v7 = .slice qi j ci ∧ j ≤ k0 ∧ Hid (itemsF k0 l' e' = (is ++ (itemsF (k0 - j) l e).1, (itemsF (k0 - j) l e).2)) ∧ Hid (is.length = j) ∧ Hid (Hr ≤ wr.heap.size) ∧ Hid (IsRDec (fun k => k < G) wr db l e) ∧ Hid (wr.heap[rb]? = some (.cells #[.slice pp m cc, .slice ql i cl] 25 (0, 0))) ∧ Hid (IsVec (fun k => rb < k ∧ k < H2) wr 3 1 (.slice pp m cc) m (acc.map (.int .i64))) ∧ Hid (IsLegsV (fun k => H2 ≤ k ∧ k < Hr) wr (.slice ql i cl) i ls) ∧ Hid (IsVec (fun k => Hr ≤ k) wr 64 3 (.slice qi j ci) j (its is)) ∧ Hid (Mod (fun k => G < k) w1 wr)) (fun _ v _ => k0 - (intOf v).toNat)
          case atStart => exact ⟨0, l', e', none, 0, [], rfl, rfl, by omega, Lib.hid rfl, Lib.hid rfl, HS, HD, HB, HVF, HLF, HI, HX⟩
          case round =>
            clear HD HB HVF HLF HI HX HS
            obtain ⟨j, l, e, qi, ci, is, rfl, rfl, hj, HPI, HIL, HS, HD, HB, HVF, HLF, HI, HX⟩ := hrel
            obtain ⟨g, hg⟩ : ∃ g, decide (j < k0 ∧ e = 0) = g := ⟨_, rfl⟩
            have HGT := Lib.hid hg
            clear hg
            go_upto_region 15 with (fail)
            go_cut [59, 60, 61, 62, 63, 64, 65, 66, 67, 68] from 116 (fun _ _ _ _ _ _ _ _ _ s wx => wr = wx ∧ s = .bool g)
            case first =>
              obtain ⟨pd, qd, -, -, hbd, -⟩ := HD.out.ex
              have ce := cell_of hbd 1
              simp only [List.getElem?_toArray, List.getElem?_cons_zero, List.getElem?_cons_succ] at ce
              clear hbd
              by_cases hn0 : j < k0
              · by_cases he : e = 0
                · subst he
                  obtain rfl : true = g := by rw [← HGT.out]; simp [hn0]
                  go_wp2_with fail
                  go_meet
                  exact ⟨rfl, rfl⟩
                · obtain rfl : false = g := by rw [← HGT.out]; simp [he]
                  have hb : (e == 0) = false := by simp [he]
                  go_wp2_with fail
                  go_meet
                  exact ⟨rfl, rfl⟩
              · obtain rfl : false = g := by rw [← HGT.out]; simp [hn0]
                go_wp2_with fail
                go_meet
                exact ⟨rfl, rfl⟩
            case rest =>
            obtain ⟨rfl, rfl⟩ := hcut
            by_cases hgo : j < k0 ∧ e = 0
            · obtain rfl : true = g := by rw [← HGT.out]; exact (decide_eq_true hgo).symm
              obtain ⟨hn0, rfl⟩ := hgo
              obtain ⟨x, la, ea, hda⟩ : ∃ x l2 e2, decN l 0 1 = (x, l2, e2) := ⟨_, _, _, rfl⟩
              obtain ⟨y, lb, eb, hdb⟩ : ∃ x l2 e2, decN la ea 1 = (x, l2, e2) := ⟨_, _, _, rfl⟩
              obtain ⟨z, lc, ec, hdc⟩ : ∃ x l2 e2, decN lb eb 8 = (x, l2, e2) := ⟨_, _, _, rfl⟩
              have HPN : Hid (itemsF k0 l' e' = ((is ++ [⟨x, y, z⟩]) ++ (itemsF (k0 - (j + 1)) lc ec).1, (itemsF (k0 - (j + 1)) lc ec).2)) := Lib.hid (by
                rw [HPI.out, itemsF_go (by omega) hda hdb hdc, show k0 - j - 1 = k0 - (j + 1) by omega]
                simp)
              have HDA := Lib.hid hda
              have HDB := Lib.hid hdb
              have HDC := Lib.hid hdc
              have hsr := HS.out
              obtain ⟨wb, rfl⟩ : ∃ x, x = wr := ⟨_, rfl⟩
              clear hda hdb hdc HPI HGT HS
              go_wp2_with fail
              refine (refDNum _ db l 0 1 1 wb HD.out (fun h => by have h : db < G := h; omega) rfl (by omega) (by omega) HDA.out).mono ?_
              rintro e' w11 ⟨rfl, hdx, m2⟩
              have HDx := Lib.hid hdx
              clear HD hdx
              have HD := HDx
              clear HDx
              have HB2 := Lib.hid ((m2.block rb (heap_lt HB.out) (by omega)).trans HB.out)
              clear HB
              have HB := HB2
              clear HB2
              have HVF2 := Lib.hid (HVF.out.mod m2 (fun k _ h (e : k = db) => by have := h.1; omega))
              clear HVF
              have HVF := HVF2
              clear HVF2
              have HLF2 := Lib.hid (HLF.out.mod m2 (fun k _ h (e : k = db) => by have := h.1; omega))
              clear HLF
              have HLF := HLF2
              clear HLF2
              have HI2 := Lib.hid (HI.out.mod m2 (fun k _ h (e : k = db) => by have h : Hr ≤ k := h; omega))
              clear HI
              have HI := HI2
              clear HI2
              have HX2 := Lib.hid (HX.out.trans m2 (fun k _ (e : k = db) => by show G < k; omega))
              clear HX
              have HX := HX2
              clear HX2
              have hsw11 := m2.size
              clear m2
              go_wp2_with fail
              refine (refDNum _ db la ea 1 1 w11 HD.out (fun h => by have h : db < G := h; omega) rfl (by omega) (by omega) HDB.out).mono ?_
              rintro e' w12 ⟨rfl, hdx, m2⟩
              have HDx := Lib.hid hdx
              clear HD hdx
              have HD := HDx
              clear HDx
              have HB2 := Lib.hid ((m2.block rb (heap_lt HB.out) (by omega)).trans HB.out)
              clear HB
              have HB := HB2
              clear HB2
              have HVF2 := Lib.hid (HVF.out.mod m2 (fun k _ h (e : k = db) => by have := h.1; omega))
              clear HVF
              have HVF := HVF2
              clear HVF2
              have HLF2 := Lib.hid (HLF.out.mod m2 (fun k _ h (e : k = db) => by have := h.1; omega))
              clear HLF
              have HLF := HLF2
              clear HLF2
              have HI2 := Lib.hid (HI.out.mod m2 (fun k _ h (e : k = db) => by have h : Hr ≤ k := h; omega))
              clear HI
              have HI := HI2
              clear HI2
              have HX2 := Lib.hid (HX.out.trans m2 (fun k _ (e : k = db) => by show G < k; omega))
              clear HX
              have HX := HX2
              clear HX2
              have hsw12 := m2.size
              clear m2
              go_wp2_with fail
              refine (refDNum _ db lb eb 8 8 w12 HD.out (fun h => by have h : db < G := h; omega) rfl (by omega) (by omega) HDC.out).mono ?_
              rintro e' w13 ⟨rfl, hdx, m2⟩
              have HDx := Lib.hid hdx
              clear HD hdx
              have HD := HDx
              clear HDx
              have HB2 := Lib.hid ((m2.block rb (heap_lt HB.out) (by omega)).trans HB.out)
              clear HB
              have HB := HB2
              clear HB2
              have HVF2 := Lib.hid (HVF.out.mod m2 (fun k _ h (e : k = db) => by have := h.1; omega))
              clear HVF
              have HVF := HVF2
              clear HVF2
              have HLF2 := Lib.hid (HLF.out.mod m2 (fun k _ h (e : k = db) => by have := h.1; omega))
              clear HLF
              have HLF := HLF2
              clear HLF2
              have HI2 := Lib.hid (HI.out.mod m2 (fun k _ h (e : k = db) => by have h : Hr ≤ k := h; omega))
              clear HI
              have HI := HI2
              clear HI2
              have HX2 := Lib.hid (HX.out.trans m2 (fun k _ (e : k = db) => by show G < k; omega))
              clear HX
              have HX := HX2
              clear HX2
              have hsw13 := m2.size
              clear m2
              obtain ⟨g13, hg13⟩ : ∃ g, w13.heap.size = g := ⟨_, rfl⟩
              obtain ⟨i0, hi0, hz0, hz1, hz2⟩ := info_parts info_item3
              have m14 : Mod nil w13 (w13.alloc (.cells #[.int .i64 x, .int .i64 y, .int .i64 z] 64)) := (Mod.refl nil _).alloc _
              obtain ⟨v15, w15, hrun, hv15, m15⟩ := vec_append (P := Try.prog) 37 37 64 i0 _ 3 24 Try.underlying37 hi0 hz0 hz1 hz2 rfl (by omega) (HI.out.modNil m14) (cellsItem w13 x y z g13 hg13) rfl (by simp [Value.oneCell']) (by unfold maxLen; omega) (by omega)
              obtain ⟨p15, q15, rfl⟩ := hv15.form
              have M15 := m14.ofNil.trans m15 (fun _ _ h => h)
              have HB15 := Lib.hid ((M15.block rb (heap_lt HB.out) (fun h => by have h : Hr ≤ rb := h; omega)).trans HB.out)
              have HVF15 := Lib.hid (HVF.out.mod M15 (fun k _ h h2 => by have := h.2; have h2 : Hr ≤ k := h2; omega))
              have HLF15 := Lib.hid (HLF.out.mod M15 (fun k _ h h2 => by have := h.2; have h2 : Hr ≤ k := h2; omega))
              have HD15 := Lib.hid (HD.out.mod M15 (fun h => by have h : Hr ≤ db := h; omega) (fun k _ h h2 => by have h : k < G := h; have h2 : Hr ≤ k := h2; omega))
              have HI15 : Hid (IsVec (fun k => Hr ≤ k) w15 64 3 (.slice p15 (j + 1) q15) (j + 1) (its (is ++ [⟨x, y, z⟩]))) := Lib.hid (by
                rw [its_append]
                exact hv15.mono (fun k hk h => h.elim id (fun h => by rw [World.size_alloc] at h; omega)))
              have HX15 := Lib.hid (HX.out.trans M15 (fun k _ h => by have h : Hr ≤ k := h; show G < k; omega))
              have HS15 : Hid (Hr ≤ w15.heap.size) := Lib.hid (by have := M15.size; omega)
              have HIL15 : Hid ((is ++ [(⟨x, y, z⟩ : It)]).length = j + 1) := Lib.hid (by rw [List.length_append, HIL.out]; rfl)
              have HRUN := Lib.hid hrun
              clear hrun hv15 m15 M15 m14 hi0 hz0 hz1 hz2 HB HVF HLF HD HI HX HIL hsr hsw11 hsw12 hsw13
              go_wp2_with (first | (at_builtin; refine wpList_append_run rfl _ _ _ _ rfl rfl rfl HRUN.out ?_))
              exact ⟨⟨j + 1, lc, ec, p15, q15, is ++ [⟨x, y, z⟩], by go_num, rfl, by omega, HPN, HIL15, HS15, HD15, HB15, HVF15, HLF15, HI15, HX15⟩, by simp [intOf]; omega⟩
            · obtain rfl : false = g := by rw [← HGT.out]; exact (decide_eq_false hgo).symm
              have HPE : Hid (itemsF k0 l' e' = (is, l, e)) := Lib.hid (by
                have h := itemsF_end (n := k0 - j) (l := l) (e := e) (by by_cases h : k0 - j = 0
                                                                         · exact .inl h
                                                                         · exact .inr (fun h2 => hgo ⟨by omega, h2⟩))
                rw [HPI.out, h]
                simp)
              have hj255 : j ≤ 255 := by omega
              have HPN : Hid (legsR n0 l3 e3 = ((ls ++ [is]) ++ (legsR (n0 - (i + 1)) l e).1, (legsR (n0 - (i + 1)) l e).2)) := Lib.hid (by
                have h := legsR_go (n := n0 - i) (by omega) HDN.out HPE.out
                rw [HP.out, h, show n0 - i - 1 = n0 - (i + 1) by omega]
                simp)
              have HLB3 : Hid (∀ x ∈ ls ++ [is], x.length ≤ 255) := Lib.hid (fun x hx => by
                rcases List.mem_append.1 hx with h | h
                · exact HLB.out x h
                · rw [List.mem_singleton.1 h, HIL.out]; exact hj255)
              clear hgo HPI HGT HPE
              have hlen3 := HIL.out
              have hits : IsIts (fun k => Hr ≤ k) wr (.slice qi j ci) is := by
                have h := HI.out.cells
                rw [← hlen3] at h ⊢
                exact h
              obtain ⟨wc, rfl⟩ : ∃ x, x = wr := ⟨_, rfl⟩
              obtain ⟨g14, hg14⟩ : ∃ g, wc.heap.size = g := ⟨_, rfl⟩
              have hsc := HS.out
              have hRS : ∀ k, Hr ≤ k → (fun k => H2 ≤ k) k ∧ ¬ (Value.slice ql i cl).ownBlock = some k := fun k hk => ⟨by show H2 ≤ k; omega, fun h => by have := (HLF.out.own h).1.2; omega⟩
              obtain ⟨v15, w15, hrun, hv15, m15, -⟩ := legs_append (S := fun k => H2 ≤ k) (g := g14) 23 (HLF.out.mono (fun k _ h => h.1)) hits hRS hg14 (by omega)
              obtain ⟨p15, q15, rfl⟩ := hv15.form
              have M15 : Mod (fun k => H2 ≤ k ∧ k < Hr) wc w15 := m15.mono (fun k _ h => (HLF.out.own h).1)
              have HB15 := Lib.hid ((M15.block rb (heap_lt HB.out) (fun h => by have := h.1; omega)).trans HB.out)
              have HVF15 := Lib.hid (HVF.out.mod M15 (fun k _ h h2 => by have := h.2; have := h2.1; omega))
              have HD15 := Lib.hid (HD.out.mod M15 (fun h => by have := h.1; omega) (fun k _ h h2 => by have h : k < G := h; have := h2.1; omega))
              have HL15 : Hid (IsLegsV (fun k => H2 ≤ k) w15 (.slice p15 (i + 1) q15) (i + 1) (ls ++ [is])) := Lib.hid (hv15.mono (fun k hk h => h.elim id (fun h => by omega)))
              have HX15 := Lib.hid (HX.out.trans M15 (fun k _ h => by have := h.1; show G < k; omega))
              have c2 := cell_of HB.out 1
              have d2 := cell_of HB15.out 1
              have z2 := free_of HB15.out 1
              simp only [List.getElem?_toArray, List.getElem?_cons_zero, List.getElem?_cons_succ] at c2 d2
              have m16 : ∀ u, Mod (· = rb) w15 (w15.setCell ⟨rb, 1, none⟩ u) := fun u => (Mod.refl (· = rb) w15).setCell _ _ (fun _ => rfl)
              have HB16 := Lib.hid (heap_setCell_same HB15.out (.slice p15 (i + 1) q15) (off := 1))
              have HVF16 := Lib.hid (HVF15.out.mod (m16 (.slice p15 (i + 1) q15)) (fun k _ h (e : k = rb) => by have := h.1; omega))
              have HD16 := Lib.hid (HD15.out.mod (m16 (.slice p15 (i + 1) q15)) (fun (h : db = rb) => by omega) (fun k _ h (e : k = rb) => by have h : k < G := h; omega))
              have HL16 := Lib.hid (HL15.out.mod (m16 (.slice p15 (i + 1) q15)) (fun k _ h (e : k = rb) => by have h : H2 ≤ k := h; omega))
              have HX16 := Lib.hid (HX15.out.trans (m16 (.slice p15 (i + 1) q15)) (fun k _ (e : k = rb) => by show G < k; omega))
              have HS16 : Hid (H2 ≤ (w15.setCell ⟨rb, 1, none⟩ (.slice p15 (i + 1) q15)).heap.size) := Lib.hid (by have := (m16 (.slice p15 (i + 1) q15)).size; have := M15.size; omega)
              have HRUN := Lib.hid hrun
              clear hrun hv15 m15 M15 m16 hRS hits hlen3 HB HVF HLF HD HI HX HB15 HVF15 HD15 HL15 HX15 HIL HP HLB HDN hsc
              go_wp2_with (first | (at_builtin; refine wpList_append_run rfl _ _ _ _ rfl rfl rfl HRUN.out ?_))
              exact ⟨⟨i + 1, l, e, p15, q15, ls ++ [is], by go_num, by omega, HPN, HLB3, HS16, HD16, HB16, HVF16, HL16, HX16⟩, by simp [intOf]; omega⟩
        · obtain rfl : false = g := by rw [← HGT.out]; exact (decide_eq_false hgo).symm
          have HPE : Hid (legsR n0 l3 e3 = (ls, l, e)) := Lib.hid (by
            have h := legsR_end (n := n0 - i) (l := l) (e := e) (by by_cases h : n0 - i = 0
                                                                    · exact .inl h
                                                                    · exact .inr (fun h2 => hgo ⟨by omega, h2⟩))
            rw [HP.out, h]
            simp)
          clear HP hgo HGT
          have hnl255 : i ≤ 255 := by omega
          obtain ⟨nl, rfl⟩ : ∃ x, x = i := ⟨_, rfl⟩
          obtain ⟨wd, rfl⟩ : ∃ x, x = wr := ⟨_, rfl⟩
          have hnpl : ls.length = nl := HL.out.len
          have HPLN := Lib.hid hnpl
          clear hnpl
          obtain ⟨Z, l5, e5, hraw⟩ : ∃ x l2 e2, rawN l e 32 = (x, l2, e2) := ⟨_, _, _, rfl⟩
          obtain ⟨ss, l6, e6, hs1⟩ : ∃ x l2 e2, decN l5 e5 8 = (x, l2, e2) := ⟨_, _, _, rfl⟩
          obtain ⟨ee, l7, e7, hs2⟩ : ∃ x l2 e2, decN l6 e6 2 = (x, l2, e2) := ⟨_, _, _, rfl⟩
          obtain ⟨ww, l8, e8, hs3⟩ : ∃ x l2 e2, decN l7 e7 2 = (x, l2, e2) := ⟨_, _, _, rfl⟩
          obtain ⟨M, hMd⟩ : ∃ M, makeN deal acc ls Z ss ee ww = M := ⟨_, rfl⟩
          have HRD : Hid (refDecF b = if e8 ≠ 0 ∨ l8.length ≠ 0 then (Pl.zero, 2) else if M.2 = 0 then (M.1, 0) else (Pl.zero, 2)) := Lib.hid (by
            have h1 := HD1.out
            have h2 := HPEA.out
            have h3 := HPE.out
            unfold refDecF
            rw [HD0.out]
            simp only
            rw [h1]
            simp only [Int.toNat_natCast]
            rw [h2]
            simp only
            rw [h3]
            simp only
            rw [hraw]
            simp only
            rw [hs1]
            simp only
            rw [hs2]
            simp only
            rw [hs3]
            simp only
            rw [hMd])
          have HS1 := Lib.hid hs1
          have HS2 := Lib.hid hs2
          have HS3 := Lib.hid hs3
          have HRW := Lib.hid hraw
          have hZl : Z.length ≤ 32 := by
            unfold rawN at hraw
            split at hraw
            · simp only [Prod.mk.injEq] at hraw; rw [← hraw.1]; simp
            · split at hraw
              · simp only [Prod.mk.injEq] at hraw; rw [← hraw.1]; simp
              · simp only [Prod.mk.injEq] at hraw; rw [← hraw.1, List.length_take]; omega
          have HZL := Lib.hid hZl
          clear hs1 hs2 hs3 hraw hZl HPE
          go_wp2_with fail
          refine (refDRaw _ db l e 32 32 wd HD.out (fun h => by have h : db < G := h; omega) rfl (by omega) (by omega) HRW.out).mono ?_
          rintro e' we ⟨vz, rfl, hvz, hdx, m2⟩
          have HDx := Lib.hid hdx
          clear HD hdx
          have HD := HDx
          clear HDx
          have HB2 := Lib.hid ((m2.block rb (heap_lt HB.out) (by omega)).trans HB.out)
          clear HB
          have HB := HB2
          clear HB2
          have HVF2 := Lib.hid (HVF.out.mod m2 (fun k _ h (e : k = db) => by have := h.1; omega))
          clear HVF
          have HVF := HVF2
          clear HVF2
          have HL2 := Lib.hid (HL.out.mod m2 (fun k _ h (e : k = db) => by have h : H2 ≤ k := h; omega))
          clear HL
          have HL := HL2
          clear HL2
          have HX2 := Lib.hid (HX.out.trans m2 (fun k _ (e : k = db) => by show G < k; omega))
          clear HX
          have HX := HX2
          clear HX2
          have hconv := rowText hvz.row
          obtain ⟨pz, cz, rfl⟩ := hvz.form
          clear m2 hvz
          obtain ⟨nz, hnz⟩ : ∃ n, Z.length = n := ⟨_, rfl⟩
          rw [hnz] at hconv ⊢
          have HNZ := Lib.hid hnz
          clear hnz
          go_upto_region 20 with (fail)
          clear hconv
          go_wp2_with fail
          refine (refDNum _ db l5 e5 8 8 we HD.out (fun h => by have h : db < G := h; omega) rfl (by omega) (by omega) HS1.out).mono ?_
          rintro e' wf ⟨rfl, hdx, m2⟩
          have HDx := Lib.hid hdx
          clear HD hdx
          have HD := HDx
          clear HDx
          have HB2 := Lib.hid ((m2.block rb (heap_lt HB.out) (by omega)).trans HB.out)
          clear HB
          have HB := HB2
          clear HB2
          have HVF2 := Lib.hid (HVF.out.mod m2 (fun k _ h (e : k = db) => by have := h.1; omega))
          clear HVF
          have HVF := HVF2
          clear HVF2
          have HL2 := Lib.hid (HL.out.mod m2 (fun k _ h (e : k = db) => by have h : H2 ≤ k := h; omega))
          clear HL
          have HL := HL2
          clear HL2
          have HX2 := Lib.hid (HX.out.trans m2 (fun k _ (e : k = db) => by show G < k; omega))
          clear HX
          have HX := HX2
          clear HX2
          clear m2
          go_wp2_with fail
          refine (refDNum _ db l6 e6 2 2 wf HD.out (fun h => by have h : db < G := h; omega) rfl (by omega) (by omega) HS2.out).mono ?_
          rintro e' wg ⟨rfl, hdx, m2⟩
          have HDx := Lib.hid hdx
          clear HD hdx
          have HD := HDx
          clear HDx
          have HB2 := Lib.hid ((m2.block rb (heap_lt HB.out) (by omega)).trans HB.out)
          clear HB
          have HB := HB2
          clear HB2
          have HVF2 := Lib.hid (HVF.out.mod m2 (fun k _ h (e : k = db) => by have := h.1; omega))
          clear HVF
          have HVF := HVF2
          clear HVF2
          have HL2 := Lib.hid (HL.out.mod m2 (fun k _ h (e : k = db) => by have h : H2 ≤ k := h; omega))
          clear HL
          have HL := HL2
          clear HL2
          have HX2 := Lib.hid (HX.out.trans m2 (fun k _ (e : k = db) => by show G < k; omega))
          clear HX
          have HX := HX2
          clear HX2
          clear m2
          go_wp2_with fail
          refine (refDNum _ db l7 e7 2 2 wg HD.out (fun h => by have h : db < G := h; omega) rfl (by omega) (by omega) HS3.out).mono ?_
          rintro e' wh ⟨rfl, hdx, m2⟩
          have HDx := Lib.hid hdx
          clear HD hdx
          have HD := HDx
          clear HDx
          have HB2 := Lib.hid ((m2.block rb (heap_lt HB.out) (by omega)).trans HB.out)
          clear HB
          have HB := HB2
          clear HB2
          have HVF2 := Lib.hid (HVF.out.mod m2 (fun k _ h (e : k = db) => by have := h.1; omega))
          clear HVF
          have HVF := HVF2
          clear HVF2
          have HL2 := Lib.hid (HL.out.mod m2 (fun k _ h (e : k = db) => by have h : H2 ≤ k := h; omega))
          clear HL
          have HL := HL2
          clear HL2
          have HX2 := Lib.hid (HX.out.trans m2 (fun k _ (e : k = db) => by show G < k; omega))
          clear HX
          have HX := HX2
          clear HX2
          clear m2
          go_wp2_with fail
          refine (refDEnd _ db l8 e8 wh HD.out).mono ?_
          rintro e' w' ⟨rfl, hw'⟩
          obtain rfl : wh = w' := hw'.symm
          obtain ⟨ec, hec⟩ : ∃ x, (if e8 = 0 then (if l8.length = 0 then 0 else 2) else e8) = x := ⟨_, rfl⟩
          rw [hec]
          have HEC := Lib.hid hec
          clear hec
          by_cases hbad : e8 ≠ 0 ∨ l8.length ≠ 0
          case pos =>
            have hb : (ec != 0) = true := by
              have h := HEC.out
              rw [bne_iff_ne, ← h]
              rcases hbad with h1 | h1
              · rw [if_neg h1]; exact h1
              · by_cases h2 : e8 = 0
                · rw [if_pos h2, if_neg h1]; decide
                · rw [if_neg h2]; exact h2
            have HN := Lib.hid (show refDecF b = (Pl.zero, 2) from by rw [HRD.out, if_pos hbad])
            clear hbad
            obtain ⟨hz, hpost⟩ := HFAIL.out (HN.out) wh HX.out
            have HZW := Lib.hid hz
            have HEND := Lib.hid hpost
            clear hz hpost
            go_wp2_with (refine wpList_store_row rfl _ _ _ rfl G #[.int .i64 0, .slice none 0 0, .slice none 0 0, .string ⟨#[]⟩, .int .i64 0, .int .i64 0, .int .i64 0, .slice none 0 0] rfl rfl 30 _ HZW.out info_plan rfl (by simp [Value.oneCell']) ?_)
            refine bodyPost_ret (results_cell_row2 rfl _ _ G 30 #[.int .i64 0, .slice none 0 0, .slice none 0 0, .string ⟨#[]⟩, .int .i64 0, .int .i64 0, .int .i64 0, .slice none 0 0] (0, 0) rfl (setRow_heap wh G _ #[.int .i64 0, .slice none 0 0, .slice none 0 0, .string ⟨#[]⟩, .int .i64 0, .int .i64 0, .int .i64 0, .slice none 0 0] _ _ HZW.out) Try.underlying30 info_plan) rfl ?_
            exact HEND.out
          obtain rfl : 0 = ec := by
            have h := HEC.out
            rw [if_pos (by omega), if_pos (by omega)] at h
            exact h
          have HRD2 : Hid (refDecF b = if M.2 = 0 then (M.1, 0) else (Pl.zero, 2)) := Lib.hid (by rw [HRD.out, if_neg hbad])
          obtain ⟨Q, er⟩ := M
          simp only at HRD2
          have hcap : m ≤ cc := by
            obtain ⟨p', c', he, h1, -⟩ := HVF.out.capd
            simp only [Value.slice.injEq] at he
            obtain ⟨-, -, rfl⟩ := he
            exact h1
          have hcall := refMake (fun _ => True) deal ss ee ww pp ql m cc nl cl acc ls Z wh (HVF.out.row.mono (fun k hk _ => hk)) (HL.out.legs.mono (fun k hk _ => hk)) hcap (by omega) (by omega) (fun x hx => by have := HLB.out x hx; omega) (by have := HZL.out; omega)
          rw [hMd] at hcall
          have HC := Lib.hid hcall
          have HMK := Lib.hid hMd
          have k0 := cell_of HB.out 0
          have k1 := cell_of HB.out 1
          simp only [List.getElem?_toArray, List.getElem?_cons_zero, List.getElem?_cons_succ] at k0 k1
          clear hbad hcall hMd hcap HRD
          go_wp2_with fail
          refine HC.out.mono ?_
          rintro e' wi ⟨v', rfl, hplq, -, mi⟩
          have HXi := Lib.hid (HX.out.thenNil mi)
          clear mi HC k0 k1
          rcases makeN_cases HMK.out with ⟨rfl, dlq, -, -, -, rfl⟩ | ⟨her, rfl⟩
          case inr =>
            have hb : (er != 0) = true := by simp [her]
            have HN := Lib.hid (show refDecF b = (Pl.zero, 2) from by rw [HRD2.out, if_neg her])
            obtain ⟨p1, q1, p2x, q2, p7, q7, hv, -⟩ := hplq
            have hv : v' = .agg #[.int .i64 0, .slice p1 0 q1, .slice p2x 0 q2, .string ⟨#[]⟩, .int .i64 0, .int .i64 0, .int .i64 0, .slice p7 0 q7] := hv
            subst hv
            clear her HMK
            go_upto_region 24 with (fail)
            generalize hwl : World.alloc wi _ = wl
            have HXl := Lib.hid (show Mod (fun k => G < k) w1 wl from by rw [← hwl]; exact HXi.out.alloc _)
            clear hwl
            obtain ⟨hz, hpost⟩ := HFAIL.out (HN.out) wl HXl.out
            have HZW := Lib.hid hz
            have HEND := Lib.hid hpost
            clear hz hpost
            go_wp2_with (refine wpList_store_row rfl _ _ _ rfl G #[.int .i64 0, .slice none 0 0, .slice none 0 0, .string ⟨#[]⟩, .int .i64 0, .int .i64 0, .int .i64 0, .slice none 0 0] rfl rfl 30 _ HZW.out info_plan rfl (by simp [Value.oneCell']) ?_)
            refine bodyPost_ret (results_cell_row2 rfl _ _ G 30 #[.int .i64 0, .slice none 0 0, .slice none 0 0, .string ⟨#[]⟩, .int .i64 0, .int .i64 0, .int .i64 0, .slice none 0 0] (0, 0) rfl (setRow_heap wl G _ #[.int .i64 0, .slice none 0 0, .slice none 0 0, .string ⟨#[]⟩, .int .i64 0, .int .i64 0, .int .i64 0, .slice none 0 0] _ _ HZW.out) Try.underlying30 info_plan) rfl ?_
            exact HEND.out
          have HPQ := Lib.hid hplq
          obtain ⟨p1, q1, p2x, q2, p7, q7, rfl, -⟩ := hplq
          simp only at HPQ ⊢
          obtain ⟨nq, hnq⟩ : ∃ n, dlq.length = n := ⟨_, rfl⟩
          rw [HPSL.out, HPLN.out, hnq] at HPQ ⊢
          clear hnq
          have hGi : G < wh.heap.size := by have := HX.out.size; omega
          go_upto_region 24 with (fail)
          obtain ⟨tb, htb⟩ : ∃ x, wi.heap.size = x := ⟨_, rfl⟩
          (try rw [htb])
          generalize hwl : World.alloc wi _ = wl
          have hml : Mod nil wi wl := by rw [← hwl]; exact (Mod.refl _ _).alloc _
          have hbl : wl.heap[tb]? = some (.cells #[.int .i64 deal, .slice p1 m q1, .slice p2x nl q2, .string ⟨Z.toArray⟩, .int .i64 ss, .int .i64 ee, .int .i64 ww, .slice p7 nq q7] 30 (0, 0)) := by rw [← hwl, ← htb]; exact heap_alloc_new _ _
          have t0 := cell_of hbl 0
          have t1 := cell_of hbl 1
          have t2 := cell_of hbl 2
          have t3 := cell_of hbl 3
          have t4 := cell_of hbl 4
          have t5 := cell_of hbl 5
          have t6 := cell_of hbl 6
          have t7 := cell_of hbl 7
          simp only [List.getElem?_toArray, List.getElem?_cons_zero, List.getElem?_cons_succ] at t0 t1 t2 t3 t4 t5 t6 t7
          have HPLl := Lib.hid (HPQ.out.modNil hml)
          have HXl := Lib.hid (HXi.out.thenNil hml)
          have HN := Lib.hid (show refDecF b = (⟨deal, acc, ls, Z, ss, ee, ww, dlq⟩, 0) from by rw [HRD2.out]; simp)
          have hz := (HXl.out.block G hG1 (fun h => Nat.lt_irrefl _ h)).trans HZ1.out
          have HZW := Lib.hid hz
          have hmG : Mod (· = G) wl (wl.setRow G #[.int .i64 deal, .slice p1 m q1, .slice p2x nl q2, .string ⟨Z.toArray⟩, .int .i64 ss, .int .i64 ee, .int .i64 ww, .slice p7 nq q7]) := (Mod.refl (· = G) wl).rowSet G _ (fun _ => rfl)
          have HEND := Lib.hid (HPOST.out (.returned (.tuple #[.agg #[.int .i64 deal, .slice p1 m q1, .slice p2x nl q2, .string ⟨Z.toArray⟩, .int .i64 ss, .int .i64 ee, .int .i64 ww, .slice p7 nq q7], .int .i64 0])) (wl.setRow G #[.int .i64 deal, .slice p1 m q1, .slice p2x nl q2, .string ⟨Z.toArray⟩, .int .i64 ss, .int .i64 ee, .int .i64 ww, .slice p7 nq q7]) ⟨_, by rw [HN.out], by
            rw [HN.out]
            exact (HPLl.out.mod hmG (fun k _ h (e : k = G) => by have h : wh.heap.size ≤ k := h; omega)).mono (fun k _ h => by have h : wh.heap.size ≤ k := h; have := HGE.out; show w.heap.size ≤ k; omega), (HM1.out.new HXl.out (fun k h => by have := HGE.out; have h : G < k := h; omega)).trans hmG (fun k hk e => by have := HGE.out; have e : k = G := e; omega)⟩)
          clear hwl hml hbl htb hz hmG HN HPQ HXi HMK HRD2
          go_wp2_with (refine wpList_store_row rfl _ _ _ rfl G #[.int .i64 deal, .slice p1 m q1, .slice p2x nl q2, .string ⟨Z.toArray⟩, .int .i64 ss, .int .i64 ee, .int .i64 ww, .slice p7 nq q7] rfl rfl 30 _ HZW.out info_plan rfl (by simp [Value.oneCell']) ?_)
          refine bodyPost_ret (results_cell_row2 rfl _ _ G 30 #[.int .i64 deal, .slice p1 m q1, .slice p2x nl q2, .string ⟨Z.toArray⟩, .int .i64 ss, .int .i64 ee, .int .i64 ww, .slice p7 nq q7] (0, 0) rfl (setRow_heap wl G _ #[.int .i64 deal, .slice p1 m q1, .slice p2x nl q2, .string ⟨Z.toArray⟩, .int .i64 ss, .int .i64 ee, .int .i64 ww, .slice p7 nq q7] _ _ HZW.out) Try.underlying30 info_plan) rfl ?_
          exact HEND.out
end Go.Proofs.Ytpkhjdhbkkepgaa

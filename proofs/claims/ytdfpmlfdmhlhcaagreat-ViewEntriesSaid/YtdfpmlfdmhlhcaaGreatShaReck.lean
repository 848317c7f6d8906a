/- Package sha: the table is reckoned. -/
import Derived.Test.YtdfpmlfdmhlhcaaGreatShaTab
namespace Go.Proofs.YtdfpmlfdmhlhcaaGreat
open Go.RowKit

/-- the table's cells: the once's word, the mutex's word, the words -/
def tabOf (d m : Int) (ks hs : List (BitVec 32)) : Array Value := ([Value.int .u32 d, Value.int .i32 m, Value.int .u32 0] ++ (wc ks ++ wc hs)).toArray
theorem tab_size (d m : Int) (ks hs : List (BitVec 32)) : (tabOf d m ks hs).size = 3 + (ks.length + hs.length) := by simp [tabOf, wc]; omega
theorem tab0 (d m : Int) (ks hs : List (BitVec 32)) : (tabOf d m ks hs)[0]? = some (.int .u32 d) := by simp [tabOf]
theorem tab1 (d m : Int) (ks hs : List (BitVec 32)) : (tabOf d m ks hs)[1]? = some (.int .i32 m) := by simp [tabOf]
theorem tab_k (d m : Int) (ks hs : List (BitVec 32)) (i : Nat) (hi : i < ks.length) : (tabOf d m ks hs)[3 + i]? = some (.int .u32 (u (ks.getD i 0))) := by
  simp only [tabOf, List.getElem?_toArray]
  rw [List.getElem?_append_right (by simp), List.getElem?_append_left (by simp [wc]; omega)]
  simp only [List.length_cons, List.length_nil]
  rw [show 3 + i - (0 + 1 + 1 + 1) = i by omega]
  exact wc_get ks i hi
theorem tab_h (d m : Int) (ks hs : List (BitVec 32)) (hk : ks.length = 64) (i : Nat) (hi : i < hs.length) : (tabOf d m ks hs)[67 + i]? = some (.int .u32 (u (hs.getD i 0))) := by
  simp only [tabOf, List.getElem?_toArray]
  rw [List.getElem?_append_right (by simp; omega), List.getElem?_append_right (by simp [wc]; omega)]
  simp only [List.length_cons, List.length_nil, wc_length]
  rw [show 67 + i - (0 + 1 + 1 + 1) - ks.length = i by omega]
  exact wc_get hs i hi
theorem tab_set0 (d m d' : Int) (ks hs : List (BitVec 32)) : (tabOf d m ks hs).setIfInBounds 0 (.int .u32 d') = tabOf d' m ks hs := by simp [tabOf]
theorem tab_set1 (d m m' : Int) (ks hs : List (BitVec 32)) : (tabOf d m ks hs).setIfInBounds 1 (.int .i32 m') = tabOf d m' ks hs := by simp [tabOf]
theorem tab_set_k (d m : Int) (ks hs : List (BitVec 32)) (i : Nat) (hi : i < ks.length) (x : BitVec 32) : (tabOf d m ks hs).setIfInBounds (3 + i) (.int .u32 (u x)) = tabOf d m (ks.set i x) hs := by
  simp only [tabOf, List.setIfInBounds_toArray]
  congr 1
  rw [List.set_append_right _ _ (by simp), List.set_append_left _ _ (by simp [wc]; omega)]
  simp only [List.length_cons, List.length_nil]
  rw [show 3 + i - (0 + 1 + 1 + 1) = i by omega, wc_set]
theorem tab_set_h (d m : Int) (ks hs : List (BitVec 32)) (hk : ks.length = 64) (i : Nat) (x : BitVec 32) : (tabOf d m ks hs).setIfInBounds (67 + i) (.int .u32 (u x)) = tabOf d m ks (hs.set i x) := by
  simp only [tabOf, List.setIfInBounds_toArray]
  congr 1
  rw [List.set_append_right _ _ (by simp; omega), List.set_append_right _ _ (by simp [wc]; omega)]
  simp only [List.length_cons, List.length_nil, wc_length]
  rw [show 67 + i - (0 + 1 + 1 + 1) - ks.length = i by omega, wc_set]
theorem take_set {α : Type} (l m : List α) (i : Nat) (hl : i < l.length) (hm : i < m.length) : (l.take i ++ m.drop i).set i l[i] = l.take (i + 1) ++ m.drop (i + 1) := by
  rw [List.set_append_right _ _ (by simp; omega)]
  have : i - (l.take i).length = 0 := by simp; omega
  rw [this, ← List.getElem_cons_drop hm, List.set_cons_zero, List.take_succ_eq_append_getElem hl, List.append_assoc]
  rfl
theorem kTab_at (i : Nat) (hi : i < kTab.length) : kTab[i] = rootW cubeB (primes.getD i 0) := by
  have h : i < primes.length := by rw [kTab_length] at hi; exact hi
  simp [kTab, List.getD_eq_getElem?_getD, List.getElem?_eq_getElem h]
theorem hTab_at (i : Nat) (hi : i < hTab.length) : hTab[i] = rootW squareB (primes.getD i 0) := by
  have h : i < primes.length := by rw [hTab_length] at hi; rw [primes_length]; omega
  simp [hTab, List.getD_eq_getElem?_getD, List.getElem?_eq_getElem h]
set_option maxRecDepth 100000 in
set_option maxHeartbeats 2000000 in
theorem shaReckon (tb : Nat) (d m : Int) (ks hs : List (BitVec 32)) (hk : ks.length = 64) (hh : hs.length = 8) (w : World) (h : w.heap[tb]? = some (.cells (tabOf d m ks hs) 119 (0, 0))) :
    Calls Tryz.prog 154 #[.pointer (some ⟨tb, 0, none⟩)] w fun e w' => e = .returned (.tuple #[]) ∧ w'.heap[tb]? = some (.cells (tabOf d m kTab hTab) 119 (0, 0)) ∧ Mod (· = tb) w w' := by
  have HH := Lib.hid h
  have HK := Lib.hid hk
  have HHS := Lib.hid hh
  clear h hk hh
  go_enter Tryz.func154, Tryz.ntmps154
  go_wp2_with fail
  go_loopw [2, 4] (fun v2 v4 wr => ∃ i q : Nat, i ≤ 64 ∧ v4 = .int .i64 i ∧ v2 = .int .u64 q ∧ Hid (q = pFrom i) ∧ q ≤ 400 ∧ Hid (wr.heap[tb]? = some (.cells (tabOf d m (kTab.take i ++ ks.drop i) (hTab.take i ++ hs.drop i)) 119 (0, 0))) ∧ Hid (Mod (· = tb) w wr)) (fun _ v _ => 64 - (intOf v).toNat)
  case atStart => exact ⟨0, 2, by omega, rfl, rfl, Lib.hid rfl, by omega, HH, Lib.hid (Mod.refl _ _)⟩
  case round =>
    obtain ⟨i, q, hi, rfl, rfl, HQ, hq4, HT, HMOD⟩ := hrel
    by_cases hlt : i < 64
    · have hpa := prime_at i hlt
      have hbi : decide ((i : Int) < 64) = true := by simp; omega
      have hib : (i : Int) < 64 := by omega
      obtain ⟨P, hP⟩ : ∃ P, primes.getD i 0 = P := ⟨_, rfl⟩
      rw [hP, ← HQ.out] at hpa
      obtain ⟨hp1, hp2, hp3, hp4⟩ := hpa
      have HPQ := Lib.hid hP
      have HP1 := Lib.hid hp1
      have HP4 := Lib.hid hp4
      clear hP hp1 hp4
      go_wp2_with fail
      go_loopw [2] (fun v wx => ∃ r : Nat, v = .int .u64 r ∧ q ≤ r ∧ r ≤ P ∧ wx = wr) (fun v _ => P - (intOf v).toNat)
      case atStart => exact ⟨q, rfl, by omega, hp3, rfl⟩
      case round =>
        obtain ⟨r, rfl, hqr, hrP, rfl⟩ := hrel
        by_cases hrlt : r < P
        · have hno := HP4.out r hqr hrlt
          go_wp2_with fail
          refine (shaPrime r (by omega) _).mono ?_
          rw [hno]
          rintro e w1 ⟨rfl, rfl⟩
          go_wp2_with fail
          exact ⟨⟨r + 1, by go_num, by omega, by omega, trivial⟩, by simp [intOf]; omega⟩
        · obtain rfl : r = P := by omega
          go_wp2_with fail
          refine (shaPrime r (by omega) _).mono ?_
          rw [HP1.out]
          rintro e w1 ⟨rfl, rfl⟩
          have hkl : i < (kTab.take i ++ ks.drop i).length := by have := HK.out; simp [kTab_length]; omega
          have hkl64 : (kTab.take i ++ ks.drop i).length = 64 := by have := HK.out; simp [kTab_length]; omega
          have hc := (cell_of HT.out (3 + i)).trans (tab_k d m _ _ i hkl)
          have hf := free_of HT.out (3 + i)
          have HT1 := Lib.hid (heap_setCell_same (off := 3 + i) HT.out (.int .u32 (u (rootW cubeB r))))
          go_upto_region 6 with (fail)
          go_region_held3 (fun _ => True) (trivial) (first
            | (go_at_call 190; refine (shaRoot_cube r (by omega) _).mono ?_; rintro e w1 ⟨rfl, rfl⟩))
          have HT2 : Hid ((wr.setCell ⟨tb, 3 + i, none⟩ (.int .u32 (u (rootW cubeB r)))).drew.heap[tb]? = some (.cells (tabOf d m (kTab.take (i + 1) ++ ks.drop (i + 1)) (hTab.take i ++ hs.drop i)) 119 (0, 0))) := Lib.hid (by
            have h1 := HT1.out
            rw [tab_set_k d m _ _ i hkl] at h1
            have h2 := kTab_at i (by rw [kTab_length]; exact hlt)
            rw [HPQ.out] at h2
            have e := take_set kTab ks i (by rw [kTab_length]; exact hlt) (by rw [HK.out]; exact hlt)
            rw [h2] at e
            rw [e] at h1
            exact h1)
          have HM2 : Hid (Mod (· = tb) w (wr.setCell ⟨tb, 3 + i, none⟩ (.int .u32 (u (rootW cubeB r)))).drew) := Lib.hid ((HMOD.out.setCell _ _ (fun _ => rfl)).drew)
          have HQ2 : Hid (r + 1 = pFrom (i + 1)) := Lib.hid (by unfold pFrom; rw [if_neg (by omega), show i + 1 - 1 = i by omega, HPQ.out])
          clear HT1 hc hf
          generalize (wr.setCell ⟨tb, 3 + i, none⟩ (.int .u32 (u (rootW cubeB r)))).drew = w2 at HT2 HM2 ⊢
          by_cases h8 : i < 8
          · have hkl2 : (kTab.take (i + 1) ++ ks.drop (i + 1)).length = 64 := by have := HK.out; simp [kTab_length]; omega
            have hhl : i < (hTab.take i ++ hs.drop i).length := by have := HHS.out; simp [hTab_length]; omega
            have hc := (cell_of HT2.out (67 + i)).trans (tab_h d m _ _ hkl2 i hhl)
            have hf := free_of HT2.out (67 + i)
            have HT3 := Lib.hid (heap_setCell_same (off := 67 + i) HT2.out (.int .u32 (u (rootW squareB r))))
            go_upto_region 8 with (fail)
            go_region_held3 (fun _ => True) (trivial) (first
              | (go_at_call 190; refine (shaRoot_square r _).mono ?_; rintro e w1 ⟨rfl, rfl⟩))
            have HT4 : Hid ((w2.setCell ⟨tb, 67 + i, none⟩ (.int .u32 (u (rootW squareB r)))).drew.heap[tb]? = some (.cells (tabOf d m (kTab.take (i + 1) ++ ks.drop (i + 1)) (hTab.take (i + 1) ++ hs.drop (i + 1))) 119 (0, 0))) := Lib.hid (by
              have h1 := HT3.out
              rw [tab_set_h d m _ _ hkl2 i] at h1
              have h2 := hTab_at i (by rw [hTab_length]; exact h8)
              rw [HPQ.out] at h2
              have e := take_set hTab hs i (by rw [hTab_length]; exact h8) (by rw [HHS.out]; exact h8)
              rw [h2] at e
              rw [e] at h1
              exact h1)
            have HM4 : Hid (Mod (· = tb) w (w2.setCell ⟨tb, 67 + i, none⟩ (.int .u32 (u (rootW squareB r)))).drew) := Lib.hid ((HM2.out.setCell _ _ (fun _ => rfl)).drew)
            clear HT3 hc hf
            generalize (w2.setCell ⟨tb, 67 + i, none⟩ (.int .u32 (u (rootW squareB r)))).drew = w4 at HT4 HM4 ⊢
            go_wp2_with fail
            exact ⟨⟨i + 1, r + 1, by omega, by go_num, by go_num, HQ2, by omega, HT4, HM4⟩, by simp [intOf]; omega⟩
          · have HT4 : Hid (w2.heap[tb]? = some (.cells (tabOf d m (kTab.take (i + 1) ++ ks.drop (i + 1)) (hTab.take (i + 1) ++ hs.drop (i + 1))) 119 (0, 0))) := Lib.hid (by
              have h1 := HT2.out
              rw [List.take_of_length_le (l := hTab) (by rw [hTab_length]; omega), show hs.drop i = [] from List.drop_eq_nil_of_le (by rw [HHS.out]; omega)] at h1
              rw [List.take_of_length_le (l := hTab) (by rw [hTab_length]; omega), show hs.drop (i + 1) = [] from List.drop_eq_nil_of_le (by rw [HHS.out]; omega)]
              exact h1)
            go_wp2_with fail
            exact ⟨⟨i + 1, r + 1, by omega, by go_num, by go_num, HQ2, by omega, HT4, HM2⟩, by simp [intOf]; omega⟩
    · obtain rfl : i = 64 := by omega
      go_wp2_with fail
      go_end0
      have h1 := HT.out
      rw [List.take_of_length_le (by rw [kTab_length]; exact Nat.le_refl _), List.take_of_length_le (by rw [hTab_length]; omega), List.drop_eq_nil_of_le (by rw [HK.out]; exact Nat.le_refl _), List.drop_eq_nil_of_le (by rw [HHS.out]; omega), List.append_nil, List.append_nil] at h1
      exact ⟨rfl, h1, HMOD.out⟩
end Go.Proofs.YtdfpmlfdmhlhcaaGreat

/- Package sha: the table is reckoned. -/
import Derived.Test.YtjilbnpehgigjaaGreatShaTab
import Derived.Defers
import Derived.Laws.Pointers
import Derived.Laws.LoneSync
import Derived.RegionTactic
import Derived.RegionCalls
import Derived.ChangeAlike
namespace Go.Proofs.YtjilbnpehgigjaaGreat
open Go.RowKit

/-- the table's cells: the once's word, the mutex's word, the words -/
def tabOf (d m : Int) (ks hs : List (BitVec 32)) : Array Value := ([Value.int .u32 d, Value.int .i32 m, Value.int .u32 0] ++ (wc ks ++ wc hs)).toArray
theorem tab_size (d m : Int) (ks hs : List (BitVec 32)) : (tabOf d m ks hs).size = 3 + (ks.length + hs.length) := by simp [tabOf, wc]; omega
theorem tab0 (d m : Int) (ks hs : List (BitVec 32)) : (tabOf d m ks hs)[0]? = some (.int .u32 d) := by simp [tabOf]
theorem tab1 (d m : Int) (ks hs : List (BitVec 32)) : (tabOf d m ks hs)[1]? = some (.int .i32 m) := by simp [tabOf]
theorem tab_k (d m : Int) (ks hs : List (BitVec 32)) (i : Nat) (hi : i < ks.length) : (tabOf d m ks hs)[3 + i]? = some (.int .u32 (u (ks.getD i 0))) := by
  simp only [tabOf, List.getElem?_toArray]
  rw [List.getElem?_append_right (by simp), List.getElem?_append_left (by simp [wc]; omega)]
  simp only [List.length_cons, List.length_nil]
  rw [show 3 + i - (0 + 1 + 1 + 1) = i by omega]
  exact wc_get ks i hi
theorem tab_h (d m : Int) (ks hs : List (BitVec 32)) (hk : ks.length = 64) (i : Nat) (hi : i < hs.length) : (tabOf d m ks hs)[67 + i]? = some (.int .u32 (u (hs.getD i 0))) := by
  simp only [tabOf, List.getElem?_toArray]
  rw [List.getElem?_append_right (by simp; omega), List.getElem?_append_right (by simp [wc]; omega)]
  simp only [List.length_cons, List.length_nil, wc_length]
  rw [show 67 + i - (0 + 1 + 1 + 1) - ks.length = i by omega]
  exact wc_get hs i hi
theorem tab_set0 (d m d' : Int) (ks hs : List (BitVec 32)) : (tabOf d m ks hs).setIfInBounds 0 (.int .u32 d') = tabOf d' m ks hs := by simp [tabOf]
theorem tab_set1 (d m m' : Int) (ks hs : List (BitVec 32)) : (tabOf d m ks hs).setIfInBounds 1 (.int .i32 m') = tabOf d m' ks hs := by simp [tabOf]
theorem tab_set_k (d m : Int) (ks hs : List (BitVec 32)) (i : Nat) (hi : i < ks.length) (x : BitVec 32) : (tabOf d m ks hs).setIfInBounds (3 + i) (.int .u32 (u x)) = tabOf d m (ks.set i x) hs := by
  simp only [tabOf, List.setIfInBounds_toArray]
  congr 1
  rw [List.set_append_right _ _ (by simp), List.set_append_left _ _ (by simp [wc]; omega)]
  simp only [List.length_cons, List.length_nil]
  rw [show 3 + i - (0 + 1 + 1 + 1) = i by omega, wc_set]
theorem tab_set_h (d m : Int) (ks hs : List (BitVec 32)) (hk : ks.length = 64) (i : Nat) (x : BitVec 32) : (tabOf d m ks hs).setIfInBounds (67 + i) (.int .u32 (u x)) = tabOf d m ks (hs.set i x) := by
  simp only [tabOf, List.setIfInBounds_toArray]
  congr 1
  rw [List.set_append_right _ _ (by simp; omega), List.set_append_right _ _ (by simp [wc]; omega)]
  simp only [List.length_cons, List.length_nil, wc_length]
  rw [show 67 + i - (0 + 1 + 1 + 1) - ks.length = i by omega, wc_set]
theorem take_set {α : Type} (l m : List α) (i : Nat) (hl : i < l.length) (hm : i < m.length) : (l.take i ++ m.drop i).set i l[i] = l.take (i + 1) ++ m.drop (i + 1) := by
  rw [List.set_append_right _ _ (by simp; omega)]
  have : i - (l.take i).length = 0 := by simp; omega
  rw [this, ← List.getElem_cons_drop hm, List.set_cons_zero, List.take_succ_eq_append_getElem hl, List.append_assoc]
  rfl
theorem kTab_at (i : Nat) (hi : i < kTab.length) : kTab[i] = rootW cubeB (primes.getD i 0) := by
  have h : i < primes.length := by rw [kTab_length] at hi; exact hi
  simp [kTab, List.getD_eq_getElem?_getD, List.getElem?_eq_getElem h]
theorem hTab_at (i : Nat) (hi : i < hTab.length) : hTab[i] = rootW squareB (primes.getD i 0) := by
  have h : i < primes.length := by rw [hTab_length] at hi; rw [primes_length]; omega
  simp [hTab, List.getD_eq_getElem?_getD, List.getElem?_eq_getElem h]
set_option maxRecDepth 100000 in
set_option maxHeartbeats 2000000 in
theorem shaReckon (tb : Nat) (d m : Int) (ks hs : List (BitVec 32)) (hk : ks.length = 64) (hh : hs.length = 8) (w : World) (h : w.heap[tb]? = some (.cells (tabOf d m ks hs) 79 (0, 0))) :
    Calls Tryz.prog 116 #[.pointer (some ⟨tb, 0, none⟩)] w fun e w' => e = .returned (.tuple #[]) ∧ w'.heap[tb]? = some (.cells (tabOf d m kTab hTab) 79 (0, 0)) ∧ Mod (· = tb) w w' := by
  have HH := Lib.hid h
  have HK := Lib.hid hk
  have HHS := Lib.hid hh
  clear h hk hh
  go_enter Tryz.func116, Tryz.ntmps116
  go_wp2_with fail
  go_loopw [2, 4] (fun v2 v4 wr => ∃ i q : Nat, i ≤ 64 ∧ v4 = .int .i64 i ∧ v2 = .int .u64 q ∧ Hid (q = pFrom i) ∧ q ≤ 400 ∧ Hid (wr.heap[tb]? = some (.cells (tabOf d m (kTab.take i ++ ks.drop i) (hTab.take i ++ hs.drop i)) 79 (0, 0))) ∧ Hid (Mod (· = tb) w wr)) (fun _ v _ => 64 - (intOf v).toNat)
  case atStart => exact ⟨0, 2, by omega, rfl, rfl, Lib.hid rfl, by omega, HH, Lib.hid (Mod.refl _ _)⟩
  case round =>
    obtain ⟨i, q, hi, rfl, rfl, HQ, hq4, HT, HMOD⟩ := hrel
    by_cases hlt : i < 64
    · have hpa := prime_at i hlt
      have hbi : decide ((i : Int) < 64) = true := by simp; omega
      have hib : (i : Int) < 64 := by omega
      obtain ⟨P, hP⟩ : ∃ P, primes.getD i 0 = P := ⟨_, rfl⟩
      rw [hP, ← HQ.out] at hpa
      obtain ⟨hp1, hp2, hp3, hp4⟩ := hpa
      have HPQ := Lib.hid hP
      have HP1 := Lib.hid hp1
      have HP4 := Lib.hid hp4
      clear hP hp1 hp4
      go_wp2_with fail
      go_loopw [2] (fun v wx => ∃ r : Nat, v = .int .u64 r ∧ q ≤ r ∧ r ≤ P ∧ wx = wr) (fun v _ => P - (intOf v).toNat)
      case atStart => exact ⟨q, rfl, by omega, hp3, rfl⟩
      case round =>
        obtain ⟨r, rfl, hqr, hrP, rfl⟩ := hrel
        by_cases hrlt : r < P
        · have hno := HP4.out r hqr hrlt
          go_wp2_with fail
          refine (shaPrime r (by omega) _).mono ?_
          rw [hno]
          rintro e w1 ⟨rfl, rfl⟩
          go_wp2_with fail
          exact ⟨⟨r + 1, by go_num, by omega, by omega, trivial⟩, by simp [intOf]; omega⟩
        · obtain rfl : r = P := by omega
          go_wp2_with fail
          refine (shaPrime r (by omega) _).mono ?_
          rw [HP1.out]
          rintro e w1 ⟨rfl, rfl⟩
          have hkl : i < (kTab.take i ++ ks.drop i).length := by have := HK.out; simp [kTab_length]; omega
          have hkl64 : (kTab.take i ++ ks.drop i).length = 64 := by have := HK.out; simp [kTab_length]; omega
          have hc := (cell_of HT.out (3 + i)).trans (tab_k d m _ _ i hkl)
          have hf := free_of HT.out (3 + i)
          have HT1 := Lib.hid (heap_setCell_same (off := 3 + i) HT.out (.int .u32 (u (rootW cubeB r))))
          go_upto_region 6 with (fail)
          go_region_held3 (fun _ => True) (trivial) (first
            | (go_at_call 123; refine (shaRoot_cube r (by omega) _).mono ?_; rintro e w1 ⟨rfl, rfl⟩))
          have HT2 : Hid ((wr.setCell ⟨tb, 3 + i, none⟩ (.int .u32 (u (rootW cubeB r)))).drew.heap[tb]? = some (.cells (tabOf d m (kTab.take (i + 1) ++ ks.drop (i + 1)) (hTab.take i ++ hs.drop i)) 79 (0, 0))) := Lib.hid (by
            have h1 := HT1.out
            rw [tab_set_k d m _ _ i hkl] at h1
            have h2 := kTab_at i (by rw [kTab_length]; exact hlt)
            rw [HPQ.out] at h2
            have e := take_set kTab ks i (by rw [kTab_length]; exact hlt) (by rw [HK.out]; exact hlt)
            rw [h2] at e
            rw [e] at h1
            exact h1)
          have HM2 : Hid (Mod (· = tb) w (wr.setCell ⟨tb, 3 + i, none⟩ (.int .u32 (u (rootW cubeB r)))).drew) := Lib.hid ((HMOD.out.setCell _ _ (fun _ => rfl)).drew)
          have HQ2 : Hid (r + 1 = pFrom (i + 1)) := Lib.hid (by unfold pFrom; rw [if_neg (by omega), show i + 1 - 1 = i by omega, HPQ.out])
          clear HT1 hc hf
          generalize (wr.setCell ⟨tb, 3 + i, none⟩ (.int .u32 (u (rootW cubeB r)))).drew = w2 at HT2 HM2 ⊢
          by_cases h8 : i < 8
          · have hkl2 : (kTab.take (i + 1) ++ ks.drop (i + 1)).length = 64 := by have := HK.out; simp [kTab_length]; omega
            have hhl : i < (hTab.take i ++ hs.drop i).length := by have := HHS.out; simp [hTab_length]; omega
            have hc := (cell_of HT2.out (67 + i)).trans (tab_h d m _ _ hkl2 i hhl)
            have hf := free_of HT2.out (67 + i)
            have HT3 := Lib.hid (heap_setCell_same (off := 67 + i) HT2.out (.int .u32 (u (rootW squareB r))))
            go_upto_region 8 with (fail)
            go_region_held3 (fun _ => True) (trivial) (first
              | (go_at_call 123; refine (shaRoot_square r _).mono ?_; rintro e w1 ⟨rfl, rfl⟩))
            have HT4 : Hid ((w2.setCell ⟨tb, 67 + i, none⟩ (.int .u32 (u (rootW squareB r)))).drew.heap[tb]? = some (.cells (tabOf d m (kTab.take (i + 1) ++ ks.drop (i + 1)) (hTab.take (i + 1) ++ hs.drop (i + 1))) 79 (0, 0))) := Lib.hid (by
              have h1 := HT3.out
              rw [tab_set_h d m _ _ hkl2 i] at h1
              have h2 := hTab_at i (by rw [hTab_length]; exact h8)
              rw [HPQ.out] at h2
              have e := take_set hTab hs i (by rw [hTab_length]; exact h8) (by rw [HHS.out]; exact h8)
              rw [h2] at e
              rw [e] at h1
              exact h1)
            have HM4 : Hid (Mod (· = tb) w (w2.setCell ⟨tb, 67 + i, none⟩ (.int .u32 (u (rootW squareB r)))).drew) := Lib.hid ((HM2.out.setCell _ _ (fun _ => rfl)).drew)
            clear HT3 hc hf
            generalize (w2.setCell ⟨tb, 67 + i, none⟩ (.int .u32 (u (rootW squareB r)))).drew = w4 at HT4 HM4 ⊢
            go_wp2_with fail
            exact ⟨⟨i + 1, r + 1, by omega, by go_num, by go_num, HQ2, by omega, HT4, HM4⟩, by simp [intOf]; omega⟩
          · have HT4 : Hid (w2.heap[tb]? = some (.cells (tabOf d m (kTab.take (i + 1) ++ ks.drop (i + 1)) (hTab.take (i + 1) ++ hs.drop (i + 1))) 79 (0, 0))) := Lib.hid (by
              have h1 := HT2.out
              rw [List.take_of_length_le (l := hTab) (by rw [hTab_length]; omega), show hs.drop i = [] from List.drop_eq_nil_of_le (by rw [HHS.out]; omega)] at h1
              rw [List.take_of_length_le (l := hTab) (by rw [hTab_length]; omega), show hs.drop (i + 1) = [] from List.drop_eq_nil_of_le (by rw [HHS.out]; omega)]
              exact h1)
            go_wp2_with fail
            exact ⟨⟨i + 1, r + 1, by omega, by go_num, by go_num, HQ2, by omega, HT4, HM2⟩, by simp [intOf]; omega⟩
    · obtain rfl : i = 64 := by omega
      go_wp2_with fail
      go_end0
      have h1 := HT.out
      rw [List.take_of_length_le (by rw [kTab_length]; exact Nat.le_refl _), List.take_of_length_le (by rw [hTab_length]; omega), List.drop_eq_nil_of_le (by rw [HK.out]; exact Nat.le_refl _), List.drop_eq_nil_of_le (by rw [HHS.out]; omega), List.append_nil, List.append_nil] at h1
      exact ⟨rfl, h1, HMOD.out⟩
end Go.Proofs.YtjilbnpehgigjaaGreat

/- sync.Once round the table's reckoning: one goroutine. -/
namespace Go.Proofs.YtjilbnpehgigjaaGreat
open Go.RowKit

theorem raceDisable (w : World) : (callFunc 132 #[]).run Tryz.prog w = .ok (.value (.tuple #[])) w := run_call_mark0 Tryz.func132 (by kernel_rfl) (by kernel_rfl) (by kernel_rfl) .disable (by kernel_rfl) w
theorem raceEnable (w : World) : (callFunc 134 #[]).run Tryz.prog w = .ok (.value (.tuple #[])) w := run_call_mark0 Tryz.func134 (by kernel_rfl) (by kernel_rfl) (by kernel_rfl) .enable (by kernel_rfl) w
theorem raceAcquire (a : Addr) (w : World) : (callFunc 135 #[.pointer (some a)]).run Tryz.prog w = .ok (.value (.tuple #[])) w := run_call_marked Tryz.func135 (by kernel_rfl) (by kernel_rfl) (by kernel_rfl) .acquire (by kernel_rfl) a w
theorem raceRelease (a : Addr) (w : World) : (callFunc 137 #[.pointer (some a)]).run Tryz.prog w = .ok (.value (.tuple #[])) w := run_call_marked Tryz.func137 (by kernel_rfl) (by kernel_rfl) (by kernel_rfl) .releaseMerge (by kernel_rfl) a w
theorem onceStore (a : Addr) (x : Value) (um : FrameMode) (w : World) (hc : w.cell? a = some x) (hz : w.frozen? a = false) :
    CallsD Tryz.prog 39 #[.pointer (some a), .bool true] um w fun e u' w' => u' = um ∧ (e = .returned (.tuple #[]) ∧ w' = w.drew.setCell a (.int .u32 1)) := by
  have hc' : w.drew.cell? a = some x := by go_simp
  have hz' : w.drew.frozen? a = false := by go_simp
  have hst := run_call_store (P := Tryz.prog) Tryz.func66 (by kernel_rfl) (by kernel_rfl) (by kernel_rfl) (by kernel_rfl) (k := .u32) (y := 1) hc' hz'
  go_enter_d Tryz.func39, Tryz.ntmps39
  go_wp2
  go_region_calls
  all_goals (go_end0; exact ⟨rfl, rfl⟩)
set_option maxRecDepth 100000 in
theorem mutexUnlock (a : Addr) (um : FrameMode) (w : World) (hc : w.cell? a = some (.int .i32 1)) (hz : w.frozen? a = false) :
    CallsD Tryz.prog 127 #[.pointer (some a)] um w fun e u' w' => u' = um ∧ (e = .returned (.tuple #[]) ∧ w' = w.setCell a (.int .i32 0)) := by
  have hd := raceDisable
  have he := raceEnable
  have hr := raceRelease
  have hadd := run_call_add (P := Tryz.prog) Tryz.func138 (by kernel_rfl) (by kernel_rfl) (by kernel_rfl) .i32 (by kernel_rfl) (y := -1) (s := 0) hc hz (by simp [go_sem]; rfl)
  have hcv := run_convert_to_unsafe (P := Tryz.prog) (src := 183) (dst := 187) Tryz.underlying183 Tryz.underlying187 (by kernel_rfl) hc
  go_enter_d Tryz.func127, Tryz.ntmps127
  go_wp2
  go_end0
  go_wp2
  go_end0
  exact ⟨rfl, rfl⟩
set_option maxRecDepth 100000 in
theorem mutexLock (a : Addr) (w : World) (hc : w.cell? a = some (.int .i32 0)) (hz : w.frozen? a = false) :
    Calls Tryz.prog 126 #[.pointer (some a)] w fun e w' => e = .returned (.tuple #[]) ∧ w' = w.setCell a (.int .i32 1) := by
  have hd := raceDisable
  have he := raceEnable
  have ha := raceAcquire
  have hcas := run_call_cas_hit (P := Tryz.prog) Tryz.func133 (by kernel_rfl) (by kernel_rfl) (by kernel_rfl) .i32 (by kernel_rfl) (y := 1) hc hz
  have hc' : (w.setCell a (.int .i32 1)).cell? a = some (.int .i32 1) := World.cell?_setCell_same w a _ hc
  have hcv := run_convert_to_unsafe (P := Tryz.prog) (src := 183) (dst := 187) Tryz.underlying183 Tryz.underlying187 (by kernel_rfl) hc'
  go_enter Tryz.func126, Tryz.ntmps126
  go_wp2
  first | go_end0 | (simp only [Exit.inBlock, Exit.then]; refine bodyPost_ret (results_none rfl _ _ _) rfl ?_) | refine bodyPost_ret (results_none rfl _ _ _) rfl ?_
  go_wp2
  go_end0
  exact ⟨rfl, rfl⟩
/-- a table, reckoned or not yet -/
def IsTab (w : World) (tb : Nat) : Prop := w.heap[tb]? = some (.cells (tabOf 1 0 kTab hTab) 79 (0, 0)) ∨ ∃ ks hs : List (BitVec 32), ks.length = 64 ∧ hs.length = 8 ∧ w.heap[tb]? = some (.cells (tabOf 0 0 ks hs) 79 (0, 0))
def IsFull (w : World) (tb : Nat) : Prop := w.heap[tb]? = some (.cells (tabOf 1 0 kTab hTab) 79 (0, 0))
theorem atomicLoad (a : Addr) (d : Int) (w : World) (hc : w.cell? a = some (.int .u32 d)) : Calls Tryz.prog 53 #[.pointer (some a)] w fun e w' => e = .returned (.bool (d != 0)) ∧ w = w' := by
  have hl := run_call_load (P := Tryz.prog) Tryz.func73 (by kernel_rfl) (by kernel_rfl) (by kernel_rfl) .u32 (by kernel_rfl) hc
  go_enter Tryz.func53, Tryz.ntmps53
  go_wp2
  go_ret
  exact ⟨rfl, rfl⟩
set_option maxRecDepth 100000 in
set_option maxHeartbeats 1600000 in
theorem onceSlow (tb : Nat) (ks hs : List (BitVec 32)) (hk : ks.length = 64) (hh : hs.length = 8) (w : World) (h : w.heap[tb]? = some (.cells (tabOf 0 0 ks hs) 79 (0, 0))) :
    Calls Tryz.prog 121 #[.pointer (some ⟨tb, 0, none⟩), .func (.func 116) #[.pointer (some ⟨tb, 0, none⟩)] #[]] w fun e w' => e = .returned (.tuple #[]) ∧ IsFull w' tb ∧ Mod (· = tb) w w' := by
  have h1 : (w.setCell ⟨tb, 1, none⟩ (.int .i32 1)).heap[tb]? = some (.cells (tabOf 0 1 ks hs) 79 (0, 0)) := by rw [heap_setCell_same h, tab_set1]
  have m1 : Mod (· = tb) w (w.setCell ⟨tb, 1, none⟩ (.int .i32 1)) := (Mod.refl _ w).setCell _ _ (fun _ => rfl)
  have c0 := (cell_of h1 0).trans (tab0 _ _ _ _)
  have hlk := mutexLock ⟨tb, 1, none⟩ w ((cell_of h 1).trans (tab1 _ _ _ _)) (free_of h 1)
  have HLK := Lib.hid hlk
  have H1 := Lib.hid h1
  have M1 := Lib.hid m1
  clear h h1 m1 hlk
  have hnot : ∀ (x : Bool) (w : World), (Op.unary .not (.bool x)).run Tryz.prog w = .ok (.bool (!x)) w := fun _ _ => rfl
  go_enter_defers Tryz.func121, Tryz.ntmps121
  go_wp2_with (first | (go_at_call 126; refine HLK.out.mono ?_; rintro e w' ⟨rfl, rfl⟩) | (go_at_call 53; refine (atomicLoad _ _ _ c0).mono ?_; rintro e w' ⟨rfl, rfl⟩))
  refine (shaReckon tb 0 1 ks hs hk hh _ H1.out).mono ?_
  rintro e w2 ⟨rfl, h2, m2⟩
  have h3 : (w2.drew.setCell ⟨tb, 0, none⟩ (.int .u32 1)).heap[tb]? = some (.cells (tabOf 1 1 kTab hTab) 79 (0, 0)) := by rw [heap_setCell_same (w := w2.drew) h2, tab_set0]
  have h4 : ((w2.drew.setCell ⟨tb, 0, none⟩ (.int .u32 1)).setCell ⟨tb, 1, none⟩ (.int .i32 0)).heap[tb]? = some (.cells (tabOf 1 0 kTab hTab) 79 (0, 0)) := by rw [heap_setCell_same h3, tab_set1]
  have m4 : Mod (· = tb) w ((w2.drew.setCell ⟨tb, 0, none⟩ (.int .u32 1)).setCell ⟨tb, 1, none⟩ (.int .i32 0)) := (((M1.out.trans m2 (fun _ _ h => h)).drew).setCell _ _ (fun _ => rfl)).setCell _ _ (fun _ => rfl)
  have hst := onceStore ⟨tb, 0, none⟩ (.int .u32 0) .returning w2 ((cell_of h2 0).trans (tab0 _ _ _ _)) (free_of h2 0)
  have hul := mutexUnlock ⟨tb, 1, none⟩ .returning _ ((cell_of h3 1).trans (tab1 _ _ _ _)) (free_of h3 1)
  have HST := Lib.hid hst
  have HUL := Lib.hid hul
  have H4 := Lib.hid h4
  have M4 := Lib.hid m4
  clear h2 h3 h4 m2 m4 hst hul
  go_wp2
  refine leaves_cons (f := 39) (args := #[.pointer (some ⟨tb, 0, none⟩), .bool true]) (by simp) (by simp [go_sem]) ?_
  refine HST.out.mono ?_
  rintro e u' w'' ⟨rfl, rfl, rfl⟩
  refine leaves_cons (f := 127) (args := #[.pointer (some ⟨tb, 1, none⟩)]) (by simp [settle]) (by simp [go_sem]) ?_
  refine HUL.out.mono ?_
  rintro e u' w'' ⟨rfl, rfl, rfl⟩
  have r1 := H4.out
  have r2 := M4.out
  simp [Leaves, settle, results, Tryz.results121, IsFull, r1, r2]
/-- the once's Do, whether it is done or not -/
theorem onceDo (tb : Nat) (w : World) (h : IsTab w tb) :
    Calls Tryz.prog 115 #[.pointer (some ⟨tb, 0, none⟩), .func (.func 116) #[.pointer (some ⟨tb, 0, none⟩)] #[]] w fun e w' => e = .returned (.tuple #[]) ∧ IsFull w' tb ∧ Mod (· = tb) w w' := by
  have hnot : ∀ (x : Bool) (w : World), (Op.unary .not (.bool x)).run Tryz.prog w = .ok (.bool (!x)) w := fun _ _ => rfl
  rcases h with h | ⟨ks, hs, hk, hh, h⟩
  · have c0 := (cell_of h 0).trans (tab0 _ _ _ _)
    have H := Lib.hid h
    clear h
    go_enter Tryz.func115, Tryz.ntmps115
    go_wp2_with (go_at_call 53; refine (atomicLoad _ _ _ c0).mono ?_; rintro e w' ⟨rfl, rfl⟩)
    go_end0
    exact ⟨rfl, H.out, Mod.refl _ _⟩
  · have c0 := (cell_of h 0).trans (tab0 _ _ _ _)
    have hsl := onceSlow tb ks hs hk hh w h
    have HSL := Lib.hid hsl
    clear h hsl
    go_enter Tryz.func115, Tryz.ntmps115
    go_wp2_with (first | (go_at_call 53; refine (atomicLoad _ _ _ c0).mono ?_; rintro e w' ⟨rfl, rfl⟩) | (go_at_call 121; refine HSL.out.mono ?_; rintro e w' ⟨rfl, hf, hm⟩))
    go_end0
    exact ⟨rfl, hf, hm⟩
theorem full_tab {w : World} {tb : Nat} (h : IsFull w tb) : IsTab w tb := .inl h
theorem IsTab.lt {w : World} {tb : Nat} (h : IsTab w tb) : tb < w.heap.size := by
  rcases h with h | ⟨_, _, _, _, h⟩
  · exact heap_lt h
  · exact heap_lt h
theorem IsTab.mod {S : Nat → Prop} {w w' : World} {tb : Nat} (h : IsTab w tb) (m : Mod S w w') (hs : ¬ S tb) : IsTab w' tb := by
  have hb := m.block tb h.lt hs
  rcases h with h | ⟨ks, hs, hk, hh, h⟩
  · exact .inl (hb.trans h)
  · exact .inr ⟨ks, hs, hk, hh, hb.trans h⟩
theorem shaWord (tb i : Nat) (hi : i < 64) (w : World) (h : IsTab w tb) :
    Calls Tryz.prog 118 #[.pointer (some ⟨tb, 0, none⟩), .int .i64 i] w fun e w' => e = .returned (.int .u32 (u (kTab.getD i 0))) ∧ IsFull w' tb ∧ Mod (· = tb) w w' := by
  have hdo := onceDo tb w h
  have HD := Lib.hid hdo
  have hmf : ∀ (fn : Fn) (first cap : Array Value) (w : World), (Instr.makeFunc fn first cap).run Tryz.prog w = .ok (.func fn first cap) w := fun _ _ _ _ => rfl
  clear hdo h
  go_enter Tryz.func118, Tryz.ntmps118
  go_wp2_with fail
  refine HD.out.mono ?_
  rintro e w2 ⟨rfl, hf, hm⟩
  have hc := (cell_of hf (3 + i)).trans (tab_k 1 0 kTab hTab i (by rw [kTab_length]; exact hi))
  have HF := Lib.hid hf
  clear hf
  go_wp2_with fail
  go_ret
  exact ⟨rfl, HF.out, hm⟩
theorem shaStart (tb i : Nat) (hi : i < 8) (w : World) (h : IsTab w tb) :
    Calls Tryz.prog 102 #[.pointer (some ⟨tb, 0, none⟩), .int .i64 i] w fun e w' => e = .returned (.int .u32 (u (hTab.getD i 0))) ∧ IsFull w' tb ∧ Mod (· = tb) w w' := by
  have hdo := onceDo tb w h
  have HD := Lib.hid hdo
  have hmf : ∀ (fn : Fn) (first cap : Array Value) (w : World), (Instr.makeFunc fn first cap).run Tryz.prog w = .ok (.func fn first cap) w := fun _ _ _ _ => rfl
  clear hdo h
  go_enter Tryz.func102, Tryz.ntmps102
  go_wp2_with fail
  refine HD.out.mono ?_
  rintro e w2 ⟨rfl, hf, hm⟩
  have hc := (cell_of hf (67 + i)).trans (tab_h 1 0 kTab hTab kTab_length i (by rw [hTab_length]; exact hi))
  have HF := Lib.hid hf
  clear hf
  go_wp2_with fail
  go_ret
  exact ⟨rfl, HF.out, hm⟩
end Go.Proofs.YtjilbnpehgigjaaGreat

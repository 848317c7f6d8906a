/- DiskLasts: the walk. -/
import Derived.Test.YtgfehfkcjgfekaaLastPlain
namespace Go.Proofs.Ytgfehfkcjgfekaa
open Go.RowKit

theorem and1_fin : ∀ b : Fin 256, bits .and .u8 ((b.val : Nat) : Int) 1 = ((b.val % 2 : Nat) : Int) := by decide +kernel
theorem and1 (b : UInt8) : bits .and .u8 (b.toNat : Int) 1 = ((b.toNat % 2 : Nat) : Int) := and1_fin ⟨b.toNat, b.toNat_lt⟩
theorem Rd.bools {w : World} {v : Value} (h : Rd w 29 v) : ∃ l : List Bool, IsRow (· < w.heap.size) w v (l.map Value.bool) ∧ l.length ≤ maxLen := by
  obtain ⟨p, len, cap, rfl, hl, hm, hall⟩ := h.slice Try.underlying29 (by rw [show Try.prog.cellsOf 4 = 1 from by kernel_rfl]; omega)
  have hc : Try.prog.cellsOf 4 = 1 := by kernel_rfl
  have : ∀ i, i < len → ∃ x : Bool, ∃ b off, p = some ⟨b, off, none⟩ ∧ b < w.heap.size ∧ w.cell? ⟨b, off + i, none⟩ = some (.bool x) := by
    intro i hi
    obtain ⟨b, off, cs', hp, hb, hlen, hcell, hrc⟩ := hall i hi
    obtain ⟨x, rfl⟩ := hrc.bool Try.underlying4
    refine ⟨x, b, off, hp, hb, ?_⟩
    have := hcell 0 (by simp)
    simpa [hc] using this
  obtain ⟨l, hlen, hP⟩ := choose_list this
  refine ⟨l, ⟨p, cap, by simp [hlen], fun i hi => ?_⟩, by omega⟩
  simp at hi
  obtain ⟨b, off, hp, hb, hcell⟩ := hP i hi
  exact ⟨b, off, hp, hb, hb, by rw [hcell]; simp [hi]⟩
def wantTo (fa fb : Nat → UInt8) (keep : List Bool) (n i : Nat) : List UInt8 := (List.range n).map (fun j => if j < i then wantOf fa fb keep j else 0)
theorem wantTo_length (fa fb : Nat → UInt8) (keep : List Bool) (n i : Nat) : (wantTo fa fb keep n i).length = n := by simp [wantTo]
theorem wantTo_set (fa fb : Nat → UInt8) (keep : List Bool) (n i : Nat) (x : UInt8) (h : wantOf fa fb keep i = x) : (wantTo fa fb keep n i).set i x = wantTo fa fb keep n (i + 1) := by
  apply List.ext_getElem
  · simp [wantTo]
  · intro j h1 h2
    have hj : j < n := by simpa [wantTo] using h2
    simp only [wantTo, List.getElem_set, List.getElem_map, List.getElem_range]
    by_cases hij : i = j
    · subst hij; rw [if_pos rfl, if_pos (by omega), h]
    · rw [if_neg hij]
      simp only [show (j < i) ↔ (j < i + 1) by omega]
theorem want_set (fa fb : Nat → UInt8) (keep : List Bool) (n i : Nat) (x : UInt8) {w : World} {g : Nat} (h : w.heap[g]? = some (.cells (bys (wantTo fa fb keep n i)).toArray 5 (0, 0))) :
    (w.setCell ⟨g, i, none⟩ (.int .u8 x.toNat)).heap[g]? = some (.cells (bys ((wantTo fa fb keep n i).set i x)).toArray 5 (0, 0)) := by
  rw [heap_setCell_same h]
  simp [bys, List.map_set]
theorem want_set2 (fa fb : Nat → UInt8) (keep : List Bool) (n i : Nat) (x y : UInt8) {w : World} {g : Nat} (h : w.heap[g]? = some (.cells (bys ((wantTo fa fb keep n i).set i x)).toArray 5 (0, 0))) :
    (w.setCell ⟨g, i, none⟩ (.int .u8 y.toNat)).heap[g]? = some (.cells (bys ((wantTo fa fb keep n i).set i y)).toArray 5 (0, 0)) := by
  rw [heap_setCell_same h]
  simp [bys, List.map_set]
set_option maxRecDepth 100000 in
theorem lawDiskLasts_bad (p q r : Option Addr) (n m k c c' c'' x : Nat) (w : World) (hmin : min (n : Int) (m : Int) = x) (h : x < 1 ∨ 60 < x ∨ 100 < k) (hn : n ≤ 9223372036854775807) (hm : m ≤ 9223372036854775807) (hk : k ≤ 9223372036854775807) :
    Calls Try.prog 5 #[.slice p n c, .slice q m c', .slice r k c''] w fun e w' => e = .returned (.bool true) ∧ Mod nil w w' := by
  have hx : x ≤ 9223372036854775807 := by omega
  have hcase : x < 1 ∨ (1 ≤ x ∧ 60 < x) ∨ (1 ≤ x ∧ x ≤ 60 ∧ 100 < k) := by omega
  rcases hcase with h1 | ⟨h1, h2⟩ | ⟨h1, h2, h3⟩
  all_goals
    go_enter Try.func5, Try.ntmps5
    go_wp2_with fail
    refine (diskFirst w).mono ?_
    rintro e w1 ⟨rfl, hm1⟩
    go_wp2_with fail
    refine (diskFirst w1).mono ?_
    rintro e w2 ⟨rfl, hm2⟩
    go_wp2_with fail
    go_ret
    exact ⟨rfl, hm1.thenNil hm2⟩
set_option maxRecDepth 100000 in
set_option maxHeartbeats 8000000 in
theorem lawDiskLasts (va vb vk : Value) (la lb : List UInt8) (keep : List Bool) (w : World) (ha : IsRow (· < w.heap.size) w va (bys la)) (hb : IsRow (· < w.heap.size) w vb (bys lb)) (hk : IsRow (· < w.heap.size) w vk (keep.map Value.bool))
    (h1 : 1 ≤ min la.length lb.length) (h60 : min la.length lb.length ≤ 60) (hk100 : keep.length ≤ 100) (hla : la.length ≤ 9223372036854775807) (hlb : lb.length ≤ 9223372036854775807) :
    Calls Try.prog 5 #[va, vb, vk] w fun e w' => e = .returned (.bool true) ∧ Mod nil w w' := by
  obtain ⟨na, hna⟩ : ∃ n, la.length = n := ⟨_, rfl⟩
  obtain ⟨nb, hnb⟩ : ∃ n, lb.length = n := ⟨_, rfl⟩
  obtain ⟨nk, hnk⟩ : ∃ n, keep.length = n := ⟨_, rfl⟩
  rw [hna, hnb] at h1 h60
  rw [hna] at hla
  rw [hnb] at hlb
  rw [hnk] at hk100
  obtain ⟨n, hn⟩ : ∃ n, min na nb = n := ⟨_, rfl⟩
  rw [hn] at h1 h60
  have hnle : n ≤ na ∧ n ≤ nb := by omega
  have hmin : min (na : Int) (nb : Int) = n := by omega
  have HN := Lib.hid hn
  have HA := Lib.hid ha
  have HB := Lib.hid hb
  have HK := Lib.hid hk
  obtain ⟨pa, ca, rfl, _⟩ := ha
  obtain ⟨pb, cb, rfl, _⟩ := hb
  obtain ⟨pk, ck, rfl, _⟩ := hk
  rw [bys_length, List.length_map] at *
  rw [bys_length] at *
  rw [hna, hnb, hnk]
  have HNA := Lib.hid hna
  have HNB := Lib.hid hnb
  have HNK := Lib.hid hnk
  clear hna hnb hnk hn
  have hmk := make64
  go_enter Try.func5, Try.ntmps5
  go_wp2_with fail
  refine (diskFirst w).mono ?_
  rintro e w1 ⟨rfl, hm1⟩
  go_wp2_with fail
  refine (diskNew n w1 (by omega) (by omega)).mono ?_
  rintro e w2 ⟨d, bl, bm, C, rfl, hd2, hfoot, hm2⟩
  go_wp2_with fail
  have hn1 : w.heap.size ≤ w1.heap.size := hm1.size
  have hd := hfoot d (.inl rfl)
  have hbl := hfoot bl (.inr (.inl rfl))
  have hbm := hfoot bm (.inr (.inr (.inl rfl)))
  have hmod2 := hm1.thenNil hm2
  have HM2 := Lib.hid hmod2
  have HD2 := Lib.hid hd2
  clear hfoot hm1 hm2 hmod2 hd2 hmk
  go_loopw [10] (fun v wr => ∃ (k : Nat) (C : Nat → Prop), k ≤ n ∧ v = .int .i64 k ∧ IsDisk wr d bl bm C ⟨List.replicate n zeros64, pends (fun i => la.getD i 0) k, -1, false⟩ ∧ Mod nil w wr) (fun v _ => n - (intOf v).toNat)
  case atStart => exact ⟨0, _, by omega, rfl, HD2.out, HM2.out⟩
  case round =>
    obtain ⟨k, C1, hk, rfl, hdk, hmod⟩ := hrel
    by_cases hlt : k < n
    · have hkl : k < la.length := by have := HNA.out; omega
      obtain ⟨x, hx⟩ : ∃ x, la.getD k 0 = x := ⟨_, rfl⟩
      obtain ⟨p', c', hp', hck⟩ := HA.out.modNil hmod
      obtain ⟨ba, oa, hpa, hba, hbw, hcell⟩ := hck k (by simpa [bys_length] using hkl)
      simp only [Value.slice.injEq] at hp'
      obtain ⟨rfl, -, rfl⟩ := hp'
      subst hpa
      have hcx : wr.cell? ⟨ba, oa + k, none⟩ = some (.int .u8 x.toNat) := by rw [hcell, bys_getD _ _ hkl, hx]
      have HX := Lib.hid hx
      clear hcell hck hx hkl hba hbw
      go_wp2_with fail
      refine (lawText64 0 0 x _ wr).mono ?_
      rintro e w3 ⟨g, rfl, hg, hrow3, hm3⟩
      have hl3 := heap_lt hdk.obj
      go_wp2_with fail
      refine (diskWrite d bl bm C1 (· = g) _ k _ (textOf x 64) _ (hdk.modNil hm3) hrow3 (show ¬ d = g by omega) (by simp [textOf_length])).mono ?_
      rw [write_ok _ _ (k : Int) (textOf x 64) (by simp; omega) (textOf_length _ _)]
      rintro e w4 ⟨C4, rfl, hd4, hC4, hm4⟩
      have hmod4 := (hmod.thenNil hm3).new hm4 (fun i hi => by omega)
      clear hC4 hm4 hrow3 hm3 hdk
      go_wp2_with fail
      rw [← HX.out, pends_succ (fun i => la.getD i 0) k] at hd4
      exact ⟨⟨k + 1, _, by omega, by go_num, hd4, hmod4⟩, by simp [intOf]; omega⟩
    · obtain rfl : k = n := by omega
      go_wp2_with fail
      refine (diskPending d bl bm C1 _ wr hdk).mono ?_
      rw [pends_length]
      rintro e w3 ⟨rfl, rfl⟩
      go_wp2_with fail
      refine (diskSync d bl bm C1 _ wr hdk).mono ?_
      rw [sync_ok, synced_pends]
      rintro e w4 ⟨rfl, hd4, hm4⟩
      have hmod4 := hmod.new hm4 (fun i hi => by omega)
      clear hdk hm4 hmod
      go_wp2_with fail
      refine (diskPending d bl bm C1 _ w4 hd4).mono ?_
      rw [show ((([] : List (Int × List UInt8)).length : Nat) : Int) = 0 from rfl]
      rintro e w5 ⟨rfl, rfl⟩
      obtain ⟨i0, hi, hz0, hz1, hz2⟩ := info_parts info_u8
      have hmk2 := run_make_one (P := Try.prog) 22 5 i0 (.int .u8 0) 1 Try.underlying22 hi hz0 hz1 hz2 rfl k (by omega) (by unfold maxLen; omega)
      clear hi hz0 hz1 hz2
      go_wp2_with fail
      clear hmk2
      have ha5 : Mod nil w4 (w4.alloc (.cells (Array.replicate k (.int .u8 0)) 5)) := (Mod.refl nil w4).alloc _
      have hd5 := (hd4.trim).modNil ha5
      obtain ⟨fa, hfa⟩ : ∃ fa : Nat → UInt8, (fun i => la.getD i 0) = fa := ⟨_, rfl⟩
      obtain ⟨fb, hfb⟩ : ∃ fb : Nat → UInt8, (fun i => lb.getD i 0) = fb := ⟨_, rfl⟩
      rw [hfa] at hd5
      have HFA := Lib.hid hfa
      have HFB := Lib.hid hfb
      have hg5 : (w4.alloc (.cells (Array.replicate k (.int .u8 0)) 5)).heap[w4.heap.size]? = some (.cells (bys (wantTo fa fb keep k 0)).toArray 5 (0, 0)) := by
        rw [heap_alloc_new]
        congr 2
        apply Array.toList_inj.1
        apply List.ext_getElem <;> simp [wantTo, bys]
      have hmod5 := hmod4.thenNil ha5
      have hdg := heap_lt hd4.obj
      have hblg : bl < w4.heap.size := by
        obtain ⟨vl, h4, _⟩ := hd4.lasts
        exact heap_lt h4
      have hbmg : bm < w4.heap.size := by
        obtain ⟨vm, h4, _⟩ := hd4.pend
        exact h4.lt
      have hwg : w.heap.size ≤ w4.heap.size := hmod4.size
      have HG5 := Lib.hid hg5
      have HD5 := Lib.hid hd5
      have HM5 := Lib.hid hmod5
      clear hfa hfb hg5 hd5 hmod5 hd4 hmod4 ha5
      generalize w4.alloc (.cells (Array.replicate k (.int .u8 0)) 5) = w5 at HG5 HD5 HM5 ⊢
      generalize w4.heap.size = g at HG5 HD5 HM5 hdg hblg hbmg hwg ⊢
      go_loopw [11, 13] (fun u v wr => ∃ (i m : Nat) (C : Nat → Prop), i ≤ k ∧ m ≤ i ∧ Hid ((dirtyTo fb i).length = m) ∧ u = .int .i64 m ∧ v = .int .i64 i ∧ wr.heap[g]? = some (.cells (bys (wantTo fa fb keep k i)).toArray 5 (0, 0)) ∧ (∀ j, C j → j ≠ g) ∧ IsDisk wr d bl bm C ⟨rowsOf fa k, pendTo fb i, -1, false⟩ ∧ Mod nil w wr) (fun _ v _ => k - (intOf v).toNat)
      case atStart => exact ⟨0, 0, _, by omega, by omega, Lib.hid rfl, rfl, rfl, HG5.out, fun j hj => by have := hj.2; omega, HD5.out, HM5.out⟩
      case round =>
        obtain ⟨i, m, C2, hi, hmi, HMM, rfl, rfl, hwant, hC2, hd6, hmod6⟩ := hrel
        have HW := Lib.hid hwant
        have HC2 := Lib.hid hC2
        by_cases hlt2 : i < k
        · have hia : i < la.length := by have := HNA.out; omega
          have hib : i < lb.length := by have := HNB.out; omega
          obtain ⟨x, hx⟩ : ∃ x, fa i = x := ⟨_, rfl⟩
          obtain ⟨y, hy⟩ : ∃ y, fb i = y := ⟨_, rfl⟩
          obtain ⟨p', c', hp', hck⟩ := HA.out.modNil hmod6
          obtain ⟨ba, oa, hpa, hba, hbw, hcell⟩ := hck i (by simpa [bys_length] using hia)
          simp only [Value.slice.injEq] at hp'
          obtain ⟨rfl, -, rfl⟩ := hp'
          subst hpa
          have hcx : wr.cell? ⟨ba, oa + i, none⟩ = some (.int .u8 x.toNat) := by rw [hcell, bys_getD _ _ hia, ← hx, ← HFA.out]
          obtain ⟨p', c', hp', hck2⟩ := HB.out.modNil hmod6
          obtain ⟨bb, ob, hpb, hbb, hbwb, hcellb⟩ := hck2 i (by simpa [bys_length] using hib)
          simp only [Value.slice.injEq] at hp'
          obtain ⟨rfl, -, rfl⟩ := hp'
          subst hpb
          have hcy : wr.cell? ⟨bb, ob + i, none⟩ = some (.int .u8 y.toNat) := by rw [hcellb, bys_getD _ _ hib, ← hy, ← HFB.out]
          have ms : ∀ v, Mod (· = g) wr (wr.setCell ⟨g, i, none⟩ v) := fun v => (Mod.refl (· = g) wr).setCell ⟨g, i, none⟩ _ (fun _ => rfl)
          have hcys : ∀ v, (wr.setCell ⟨g, i, none⟩ v).cell? ⟨bb, ob + i, none⟩ = some (.int .u8 y.toNat) := fun v => cell_kept hcy (ms v) (by omega) (show bb ≠ g by omega)
          have cg : wr.cell? ⟨g, i, none⟩ = some ((bys (wantTo fa fb keep k i)).getD i undef) := by rw [cell_of hwant]; simp [bys, wantTo, hlt2]
          have fg : wr.frozen? ⟨g, i, none⟩ = false := free_of hwant i
          have hds := hd6.mod (ms (.int .u8 x.toNat)) (fun j hj hf e => by
            rcases hf with h | h | h | h
            · omega
            · omega
            · omega
            · exact hC2 _ h e)
          have hws := want_set fa fb keep k i x hwant
          have hmods := hmod6.new (ms (.int .u8 x.toNat)) (fun j hj => by omega)
          have HX := Lib.hid hx
          have HY := Lib.hid hy
          have HDS := Lib.hid hds
          have HWS := Lib.hid hws
          have HMS := Lib.hid hmods
          have hsz : (wr.setCell ⟨g, i, none⟩ (.int .u8 x.toNat)).heap.size = wr.heap.size := by simp
          have HSZ := Lib.hid hsz
          have hbS : bb < w.heap.size := by omega
          clear hcell hck hcellb hck2 hx hy hia hib hba hbb hwant hC2 hd6 hds hws hmods hsz ms
          by_cases hodd : odd y
          · have hand : bits .and .u8 (y.toNat : Int) 1 = 1 := by rw [and1]; unfold odd at hodd; omega
            have HODD := Lib.hid hodd
            clear hodd
            go_wp2_with fail
            have hcy7 := hcys (.int .u8 x.toNat)
            have hgs := heap_lt HWS.out
            have hdgt : w.heap.size ≤ d ∧ w.heap.size ≤ bm := by omega
            clear hcys hcx hcy cg fg hand HSZ
            generalize wr.setCell ⟨g, i, none⟩ (.int .u8 x.toNat) = ws at *
            refine (lawText64 0 0 y _ ws).mono ?_
            rintro e w7 ⟨g7, rfl, hg7, hrow7, hm7⟩
            have hd7 := HDS.out.modNil hm7
            have hds7 := heap_lt HDS.out.obj
            go_wp2_with fail
            refine (diskWrite d bl bm C2 (· = g7) _ i _ (textOf y 64) _ hd7 hrow7 (show ¬ d = g7 by omega) (by simp [textOf_length])).mono ?_
            rw [write_ok _ _ (i : Int) (textOf y 64) (by rw [rowsOf_length]; omega) (textOf_length _ _)]
            rintro e w8 ⟨C8, rfl, hd8, hC8, hm8⟩
            have hmod8 := (HMS.out.thenNil hm7).new hm8 (fun j hj => by omega)
            have hw8 := (hm8.block g (Nat.lt_of_lt_of_le hgs hm7.size) (by omega)).trans (hm7.keep HWS.out)
            have hcy8 := cell_kept (cell_kept hcy7 hm7 (World.block_lt_of_cell? _ _ hcy7) (not_nil _)) hm8 (Nat.lt_of_lt_of_le (World.block_lt_of_cell? _ _ hcy7) hm7.size) (show ¬ (bb = d ∨ bb = bm) by omega)
            have cg8 : w8.cell? ⟨g, i, none⟩ = some ((bys ((wantTo fa fb keep k i).set i x)).getD i undef) := by rw [cell_of hw8]; simp [bys, wantTo, hlt2]
            have fg8 : w8.frozen? ⟨g, i, none⟩ = false := free_of hw8 i
            have hodd' : odd (fb i) := by rw [HY.out]; exact HODD.out
            rw [← HY.out, pendTo_odd fb i hodd'] at hd8
            have hC8g : ∀ j, C8 j → j ≠ g := fun j hj e => by
              rcases hC8 j hj with h | h
              · exact HC2.out j h e
              · have := hm7.size; omega
            have hlen1 : (dirtyTo fb (i + 1)).length = m + 1 := by rw [dirtyTo, if_pos hodd']; simp [HMM.out]
            have HW8 := Lib.hid hw8
            have HD8 := Lib.hid hd8
            have HC8 := Lib.hid hC8g
            have HL1 := Lib.hid hlen1
            have HO := Lib.hid hodd'
            have HM8 := Lib.hid hmod8
            clear hcy7 hrow7 hm7 hd7 hm8 hC8 hw8 hd8 hC8g hlen1 hodd' hmod8 HDS HWS HMS HODD
            by_cases hmk2 : m < nk
            · obtain ⟨kb, hkb⟩ : ∃ kb, keep.getD m false = kb := ⟨_, rfl⟩
              have hmkl : m < keep.length := by have := HNK.out; omega
              obtain ⟨p', c', hp', hckk⟩ := HK.out.modNil HM8.out
              obtain ⟨bk, ok, hpk, _, _, hcellk⟩ := hckk m (by simpa using hmkl)
              simp only [Value.slice.injEq] at hp'
              obtain ⟨rfl, -, rfl⟩ := hp'
              subst hpk
              have hck8 : w8.cell? ⟨bk, ok + m, none⟩ = some (.bool kb) := by rw [hcellk, ← hkb]; simp [hmkl]
              have HKB := Lib.hid hkb
              clear hcellk hckk hkb hmkl
              cases kb
              · go_wp2_with fail
                have hw : wantOf fa fb keep i = x := by unfold wantOf; rw [if_neg (by rw [HMM.out, HKB.out]; exact fun h => Bool.noConfusion h.2)]; exact HX.out
                have hws := HW8.out
                rw [wantTo_set fa fb keep k i x hw] at hws
                exact ⟨⟨i + 1, m + 1, C8, by omega, by omega, HL1, by go_num, by go_num, hws, HC8.out, HD8.out, HM8.out⟩, by simp [intOf]; omega⟩
              · go_wp2_with fail
                have hw : wantOf fa fb keep i = y := by unfold wantOf; rw [if_pos ⟨HO.out, by rw [HMM.out]; exact HKB.out⟩]; exact HY.out
                have ms : Mod (· = g) w8 (w8.setCell ⟨g, i, none⟩ (.int .u8 y.toNat)) := (Mod.refl (· = g) w8).setCell ⟨g, i, none⟩ _ (fun _ => rfl)
                have hws := want_set2 fa fb keep k i x y HW8.out
                rw [wantTo_set fa fb keep k i y hw] at hws
                have hd9 := HD8.out.mod ms (fun j hj hf e => by
                  rcases hf with h | h | h | h
                  · omega
                  · omega
                  · omega
                  · exact HC8.out _ h e)
                exact ⟨⟨i + 1, m + 1, C8, by omega, by omega, HL1, by go_num, by go_num, hws, HC8.out, hd9, HM8.out.new ms (fun j hj => by omega)⟩, by simp [intOf]; omega⟩
            · go_wp2_with fail
              have hkb : keep.getD m false = false := by have := HNK.out; simp [show keep.length ≤ m by omega]
              have hw : wantOf fa fb keep i = x := by unfold wantOf; rw [if_neg (by rw [HMM.out, hkb]; exact fun h => Bool.noConfusion h.2)]; exact HX.out
              have hws := HW8.out
              rw [wantTo_set fa fb keep k i x hw] at hws
              exact ⟨⟨i + 1, m + 1, C8, by omega, by omega, HL1, by go_num, by go_num, hws, HC8.out, HD8.out, HM8.out⟩, by simp [intOf]; omega⟩
          · have hand : bits .and .u8 (y.toNat : Int) 1 = 0 := by rw [and1]; unfold odd at hodd; omega
            have HODD := Lib.hid hodd
            clear hodd
            go_wp2_with fail
            have hw : wantOf fa fb keep i = x := by unfold wantOf; rw [if_neg (by rw [HY.out]; exact fun h => HODD.out h.1)]; exact HX.out
            have hno : ¬ odd (fb i) := by rw [HY.out]; exact HODD.out
            have hws := HWS.out
            rw [wantTo_set fa fb keep k i x hw] at hws
            have hds := HDS.out
            rw [← pendTo_even fb i hno] at hds
            exact ⟨⟨i + 1, m, C2, by omega, by omega, Lib.hid (by rw [dirtyTo, if_neg hno]; exact HMM.out), by go_num, by go_num, hws, HC2.out, hds, HMS.out⟩, by simp [intOf]; omega⟩
        · obtain rfl : i = k := by omega
          go_wp2_with fail
          refine (diskPending d bl bm C2 _ wr hd6).mono ?_
          rw [show (pendTo fb i).length = m from (pendTo_length fb i).trans HMM.out]
          rintro e w7 ⟨rfl, rfl⟩
          go_wp2_with fail
          have hkrow := HK.out.modNil hmod6
          rw [HNK.out] at hkrow
          refine (diskCrash d bl bm C2 (· < w.heap.size) _ _ keep wr hd6 hkrow ⟨by omega, by omega⟩ (by rw [HNK.out]; omega)).mono ?_
          rw [crash_pendTo]
          rintro e w8 ⟨rfl, hd8, hm8⟩
          have hmod8 := hmod6.new hm8 (fun j hj => by omega)
          have hw8 := (hm8.block g (heap_lt hwant) (by omega)).trans hwant
          have HW8 := Lib.hid hw8
          have HD8 := Lib.hid hd8
          have HM8 := Lib.hid hmod8
          clear hw8 hd8 hmod8 hm8 hkrow hmod6 hd6 hwant hC2
          go_wp2_with fail
          go_loopw [14] (fun v wr => ∃ j : Nat, j ≤ i ∧ v = .int .i64 j ∧ wr.heap[g]? = some (.cells (bys (wantTo fa fb keep i i)).toArray 5 (0, 0)) ∧ IsDisk wr d bl bm C2 ⟨rowsOf (wantOf fa fb keep) i, [], -1, false⟩ ∧ Mod nil w wr) (fun v _ => i - (intOf v).toNat)
          case atStart => exact ⟨0, by omega, rfl, HW8.out, HD8.out, HM8.out⟩
          case round =>
            obtain ⟨j, hj, rfl, hw9, hd9, hmod9⟩ := hrel
            by_cases hlt3 : j < i
            · go_wp2_with fail
              refine (diskRead d bl bm C2 _ j _ hd9).mono ?_
              rw [read_rows (wantOf fa fb keep) i j hlt3]
              rintro e w10 ⟨v10, rfl, hv10, hm10⟩
              obtain ⟨x, hx⟩ : ∃ x, wantOf fa fb keep j = x := ⟨_, rfl⟩
              have hmod10 := hmod9.thenNil hm10
              have hd10 := hd9.modNil hm10
              have hw10 := hm10.keep hw9
              have hrow10 := hv10.row
              have c10 : w10.cell? ⟨g, j, none⟩ = some (.int .u8 x.toNat) := by rw [cell_of hw10]; simp [bys, wantTo, hlt3, hx]
              rw [hx] at hrow10
              have HX := Lib.hid hx
              clear hd9 hmod9 hm10 hv10 hw9 hx
              go_wp2_with fail
              refine (lawText64 0 0 x _ w10).mono ?_
              rintro e w11 ⟨g11, rfl, hg11, hrow11, hm11⟩
              go_wp2_with fail
              refine (refBytes _ _ _ _ _ _ w11 (hrow10.modNil hm11) hrow11).mono ?_
              rw [show decide ((textOf x 64, (0 : Int)).1 = textOf x 64) = true from by simp]
              rintro e w12 ⟨rfl, hm12⟩
              have hmod12 := (hmod10.thenNil hm11).thenNil hm12
              have hd12 := (hd10.modNil hm11).modNil hm12
              have hw12 := hm12.keep (hm11.keep hw10)
              clear hrow10 hrow11 hm11 hm12 hd10 hmod10 hw10 c10
              go_wp2_with fail
              exact ⟨⟨j + 1, by omega, by go_num, hw12, hd12, hmod12⟩, by simp [intOf]; omega⟩
            · obtain rfl : j = i := by omega
              go_wp2_with fail
              refine (diskFirst _).mono ?_
              rintro e w10 ⟨rfl, hm10⟩
              have hmod10 := hmod9.thenNil hm10
              have hd10 := hd9.modNil hm10
              clear hd9 hmod9 hm10 hw9
              go_wp2_with fail
              refine (diskPending d bl bm C2 _ w10 hd10).mono ?_
              rw [show ((([] : List (Int × List UInt8)).length : Nat) : Int) = 0 from rfl]
              rintro e w11 ⟨rfl, rfl⟩
              go_wp2_with fail
              refine (diskDown d bl bm C2 _ w10 hd10).mono ?_
              rintro e w12 ⟨rfl, rfl⟩
              go_wp2_with fail
              go_ret
              exact ⟨rfl, hmod10⟩
theorem walkDiskLasts (v0 v1 v2 : Value) (W : World) (r0 : Rd W 22 v0) (r1 : Rd W 22 v1) (r2 : Rd W 29 v2) :
    Calls Try.prog 5 #[v0, v1, v2] W fun e w' => e = .returned (.bool true) ∧ Below W.heap.size W w' := by
  obtain ⟨la, hla, hna⟩ := r0.bytes
  obtain ⟨lb, hlb, hnb⟩ := r1.bytes
  obtain ⟨lk, hlk, hnk⟩ := r2.bools
  by_cases hbad : min la.length lb.length < 1 ∨ 60 < min la.length lb.length ∨ 100 < lk.length
  · obtain ⟨p, c, rfl, _⟩ := hla
    obtain ⟨q, c', rfl, _⟩ := hlb
    obtain ⟨r, c'', rfl, _⟩ := hlk
    rw [bys_length, bys_length, List.length_map]
    exact (lawDiskLasts_bad p q r la.length lb.length lk.length c c' c'' (min la.length lb.length) W (by omega) hbad (by unfold maxLen at hna; omega) (by unfold maxLen at hnb; omega) (by unfold maxLen at hnk; omega)).mono fun e w' ⟨h1, h2⟩ => ⟨h1, h2.below⟩
  · exact (lawDiskLasts v0 v1 v2 la lb lk W hla hlb hlk (by omega) (by omega) (by omega) (by unfold maxLen at hna; omega) (by unfold maxLen at hnb; omega)).mono fun e w' ⟨h1, h2⟩ => ⟨h1, h2.below⟩
end Go.Proofs.Ytgfehfkcjgfekaa

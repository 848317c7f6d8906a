/- cflref6.Disk's Crash. -/
import Derived.Test.YtjilbnpehgigjaaGreatRefWrite
namespace Go.Proofs.YtjilbnpehgigjaaGreat
open Go.RowKit

/-- the sectors' present texts while so many of what was pending have been laid or lost -/
def DS.nowTo (d : DS) (keep : List Bool) (m : Nat) : List (List UInt8) := (List.range d.lasts.length).map fun i : Nat => if ((i : Nat) : Int) ∈ d.dirt.take m then (d.layTo keep m).getD i [] else d.cur i
theorem nowTo_length (d : DS) (keep : List Bool) (m : Nat) : (d.nowTo keep m).length = d.lasts.length := by simp [DS.nowTo]
theorem nowTo_zero (d : DS) (keep : List Bool) : d.nowTo keep 0 = d.curs := by simp [DS.nowTo, DS.curs]
theorem at_cur (d : DS) (i : Nat) (h : (i : Int) ∈ d.dirt) : d.at (i : Int) = d.cur i := by
  unfold DS.at DS.cur
  rw [dirt_mem] at h
  cases hf : d.pend.find? (fun p => p.1 == (i : Int)) with
  | some p => rfl
  | none =>
    obtain ⟨p, hp, he⟩ := List.mem_map.1 h
    have := List.find?_eq_none.1 hf p hp
    simp [he] at this
theorem take_notin {l : List Int} (hn : l.Nodup) (m : Nat) (hm : m < l.length) : l[m] ∉ l.take m := by
  intro h
  obtain ⟨j, hj, e⟩ := List.getElem_of_mem h
  simp only [List.length_take] at hj
  rw [List.getElem_take] at e
  have := (List.getElem_inj hn).1 e
  omega
theorem mem_take_succ {l : List Int} (m : Nat) (hm : m < l.length) (x : Int) : x ∈ l.take (m + 1) ↔ x ∈ l.take m ∨ x = l[m] := by
  rw [← List.take_append_getElem hm, List.mem_append, List.mem_singleton]
theorem nowTo_at (d : DS) (keep : List Bool) (m i : Nat) (hn : d.dirt.Nodup) (hm : m < d.dirt.length) (hi : d.dirt[m] = (i : Int)) (hl : i < d.lasts.length) : (d.nowTo keep m).getD i [] = d.cur i := by
  have h := take_notin hn m hm
  rw [hi] at h
  simp [DS.nowTo, hl, h]
theorem nowTo_set (d : DS) (keep : List Bool) (m i : Nat) (hm : m < d.dirt.length) (hi : d.dirt[m] = (i : Int)) : (d.nowTo keep m).set i ((d.layTo keep (m + 1)).getD i []) = d.nowTo keep (m + 1) := by
  have hg : d.dirt.getD m 0 = (i : Int) := by simp [hm, hi]
  apply List.ext_getElem
  · simp [DS.nowTo]
  · intro j h1 h2
    simp only [DS.nowTo, List.getElem_set, List.getElem_map, List.getElem_range, mem_take_succ m hm, hi]
    by_cases hij : i = j
    · subst hij; simp
    · rw [if_neg hij]
      have hne : ¬ (j : Int) = i := by omega
      simp only [hne, or_false]
      have hlay : (d.layTo keep (m + 1)).getD j [] = (d.layTo keep m).getD j [] := by
        show (if keep.getD m false then (d.layTo keep m).set (d.dirt.getD m 0).toNat (d.at (d.dirt.getD m 0)) else d.layTo keep m).getD j [] = _
        split
        · rw [hg, Int.toNat_natCast]; simp [List.getElem?_set_ne hij]
        · rfl
      rw [hlay]
theorem layTo_other (d : DS) (keep : List Bool) (hk : ∀ x ∈ d.dirt, 0 ≤ x) (j : Nat) (hj : (j : Int) ∉ d.dirt) : ∀ m, m ≤ d.dirt.length → (d.layTo keep m).getD j [] = d.lasts.getD j []
  | 0, _ => rfl
  | m + 1, h => by
    have ih := layTo_other d keep hk j hj m (by omega)
    show (if keep.getD m false then (d.layTo keep m).set (d.dirt.getD m 0).toNat (d.at (d.dirt.getD m 0)) else d.layTo keep m).getD j [] = _
    split
    · have hm : m < d.dirt.length := by omega
      rw [show d.dirt.getD m 0 = d.dirt[m] by simp [hm]]
      have h0 := hk _ (List.getElem_mem hm)
      have hne : d.dirt[m].toNat ≠ j := fun e => hj (by rw [show (j : Int) = d.dirt[m] by omega]; exact List.getElem_mem hm)
      rw [← ih]
      simp [List.getElem?_set_ne hne]
    · exact ih
theorem nowTo_all (d : DS) (keep : List Bool) (hk : ∀ x ∈ d.dirt, 0 ≤ x) : d.nowTo keep d.dirt.length = d.layTo keep d.dirt.length := by
  apply List.ext_getElem
  · rw [nowTo_length, DS.layTo_length]
  · intro i h1 h2
    have hil : i < d.lasts.length := by rw [nowTo_length] at h1; exact h1
    have e : (d.layTo keep d.dirt.length)[i] = (d.layTo keep d.dirt.length).getD i [] := by simp [h2]
    rw [e]
    simp only [DS.nowTo, List.getElem_map, List.getElem_range, List.take_length]
    by_cases hm : (i : Int) ∈ d.dirt
    · rw [if_pos hm]
    · rw [if_neg hm, layTo_other d keep hk i hm _ (Nat.le_refl _)]
      unfold DS.cur
      rw [dirt_mem] at hm
      rw [List.find?_eq_none.2 (fun p hp => by simp; exact fun e => hm (List.mem_map.2 ⟨p, hp, e⟩))]
theorem layTo_step (d : DS) (keep : List Bool) (m i : Nat) (hm : m < d.dirt.length) (hi : d.dirt[m] = (i : Int)) : d.layTo keep (m + 1) = if keep.getD m false then (d.layTo keep m).set i (d.cur i) else d.layTo keep m := by
  have hg : d.dirt.getD m 0 = (i : Int) := by simp [hm, hi]
  show (if keep.getD m false then (d.layTo keep m).set (d.dirt.getD m 0).toNat (d.at (d.dirt.getD m 0)) else d.layTo keep m) = _
  rw [hg, Int.toNat_natCast, at_cur d i (hi ▸ List.getElem_mem hm)]
set_option maxRecDepth 100000 in
set_option maxHeartbeats 2000000 in
theorem refCrash (b : Nat) (B T : Nat → Prop) (d : DS) (v : Value) (keep : List Bool) (w : World) (h : IsRefIn w B b d) (hv : IsRow T w v (keep.map Value.bool)) (hT : ∀ k, T k → ¬ B k) (hkl : keep.length ≤ 9223372036854775807) :
    Calls Tryz.prog 22 #[.pointer (some ⟨b, 0, none⟩), v] w fun e w' => e = .returned (.tuple #[]) ∧ IsRefIn w' B b (d.crash keep) ∧ Mod B w w' := by
  obtain ⟨P1, P2, P3, v1, v2, v3, h, hb, hB⟩ := h
  have HV := Lib.hid hv
  obtain ⟨p, c, rfl, hc⟩ := hv
  rw [List.length_map] at *
  clear hc
  obtain ⟨m, hm⟩ : ∃ m, keep.length = m := ⟨_, rfl⟩
  rw [hm] at hkl ⊢
  have HM := Lib.hid hm
  clear hm
  obtain ⟨p1, q1, rfl⟩ := h.now.form
  obtain ⟨p2, q2, rfl⟩ := h.last.form
  obtain ⟨p3, q3, rfl⟩ := h.pend.form
  obtain ⟨n, hn⟩ : ∃ n, d.lasts.length = n := ⟨_, rfl⟩
  obtain ⟨nd, hnd⟩ : ∃ nd, d.dirt.length = nd := ⟨_, rfl⟩
  have hroom := h.room
  have hfew := h.few
  rw [← dirt_length, hnd] at hfew
  rw [hn] at hroom
  have hobj := h.obj
  have hnow := h.now
  have hlast := h.last
  have hpend := h.pend
  rw [hn] at hobj hnow hlast
  rw [hnd] at hobj hpend
  have H := Lib.hid h
  have HN := Lib.hid hn
  have HND := Lib.hid hnd
  have HOBJ := Lib.hid hobj
  have HNOW := Lib.hid hnow
  have HLAST := Lib.hid hlast
  have HPEND := Lib.hid hpend
  have hdn : d.dirt.Nodup := (dirt_sorted d h.nodup).imp (fun h => by omega)
  have hdr : ∀ x ∈ d.dirt, 0 ≤ x ∧ x < d.lasts.length := fun x hx => by
    rw [dirt_mem] at hx
    obtain ⟨q, hq, rfl⟩ := List.mem_map.1 hx
    exact h.keys q hq
  have HDN := Lib.hid hdn
  have HDR := Lib.hid hdr
  clear h hn hnd hobj hnow hlast hpend hdn hdr
  go_enter Tryz.func22, Tryz.ntmps22
  go_wp2_with fail
  go_loopw [4] (fun v wr => ∃ k : Nat, k ≤ nd ∧ v = .int .i64 k ∧ wr.heap[b]? = some (.cells #[.slice p1 n q1, .slice p2 n q2, .slice p3 nd q3, .int .i64 d.fuse, .bool d.down] 60 (0, 0)) ∧ IsVec P1 wr 9 1 (.slice p1 n q1) n (strs (d.nowTo keep k)) ∧ IsVec P2 wr 9 1 (.slice p2 n q2) n (strs (d.layTo keep k)) ∧ IsVec P3 wr 3 1 (.slice p3 nd q3) nd (d.dirt.map (Value.int .i64)) ∧ Mod B w wr) (fun v _ => nd - (intOf v).toNat)
  case atStart => exact ⟨0, by omega, rfl, HOBJ.out, by rw [nowTo_zero]; exact HNOW.out, HLAST.out, HPEND.out, Mod.refl _ _⟩
  case round =>
    obtain ⟨k, hk, rfl, hobj, hnow, hlast, hpend, hmod⟩ := hrel
    by_cases hlt : k < nd
    · have hkd : k < d.dirt.length := by have := HND.out; omega
      obtain ⟨xn, hxi⟩ : ∃ xn : Nat, d.dirt[k] = (xn : Int) := ⟨d.dirt[k].toNat, by have := HDR.out _ (List.getElem_mem hkd); omega⟩
      have hxn : xn < n := by have := HDR.out _ (List.getElem_mem hkd); have := HN.out; omega
      obtain ⟨g3, q3', hv3, hg3, hgl3, ck3, _, _⟩ := vec_set hpend k hlt
      simp only [Value.slice.injEq] at hv3
      obtain ⟨rfl, -, rfl⟩ := hv3
      rw [show (d.dirt.map (Value.int .i64)).getD k undef = .int .i64 xn from by simp [hkd, hxi]] at ck3
      obtain ⟨g1, q1', hv1, hg1, hgl1, ck1, fk1, hset1⟩ := vec_set hnow xn hxn
      simp only [Value.slice.injEq] at hv1
      obtain ⟨rfl, -, rfl⟩ := hv1
      obtain ⟨g2, q2', hv2, hg2, hgl2, ck2, fk2, hset2⟩ := vec_set hlast xn hxn
      simp only [Value.slice.injEq] at hv2
      obtain ⟨rfl, -, rfl⟩ := hv2
      have hx := nowTo_at d keep k xn HDN.out hkd hxi (by have := HN.out; omega)
      rw [strs_getD _ _ (by rw [nowTo_length]; have := HN.out; omega), hx] at ck1
      obtain ⟨x, hx⟩ : ∃ x, d.cur xn = x := ⟨_, rfl⟩
      rw [hx] at ck1
      obtain ⟨y, hy⟩ : ∃ y, (d.layTo keep k).getD xn [] = y := ⟨_, rfl⟩
      rw [strs_getD _ _ (by rw [DS.layTo_length]; have := HN.out; omega), hy] at ck2
      have hb1 : b ≠ g1 := fun e => H.out.p1 (e ▸ hg1)
      have hb2 : b ≠ g2 := fun e => H.out.p2 (e ▸ hg2)
      have hg21 : g2 ≠ g1 := fun e => H.out.p12 g1 hg1 (e ▸ hg2)
      have c0 : wr.cell? ⟨b, 0, none⟩ = some (.slice (some ⟨g1, 0, none⟩) n q1) := cell_of hobj 0
      have c1 : wr.cell? ⟨b, 1, none⟩ = some (.slice (some ⟨g2, 0, none⟩) n q2) := cell_of hobj 1
      have c2 : wr.cell? ⟨b, 2, none⟩ = some (.slice (some ⟨g3, 0, none⟩) nd q3) := cell_of hobj 2
      obtain ⟨kb, hkb⟩ : ∃ kb, keep.getD k false = kb := ⟨_, rfl⟩
      have HKB := Lib.hid hkb
      have HSET := Lib.hid hset1
      by_cases hkm : k < m
      · have hmkl : k < keep.length := by have := HM.out; omega
        obtain ⟨p', c', hp', hckk⟩ := HV.out.mod hmod (fun j _ hj e => hT j hj e)
        obtain ⟨bk, ok, hpk, _, _, hcellk⟩ := hckk k (by simpa using hmkl)
        simp only [Value.slice.injEq] at hp'
        obtain ⟨rfl, -, rfl⟩ := hp'
        subst hpk
        have hck8 : wr.cell? ⟨bk, ok + k, none⟩ = some (.bool kb) := by rw [hcellk, ← hkb]; simp [hmkl]
        clear hcellk hckk hkb hmkl
        cases kb
        · have hlay : d.layTo keep (k + 1) = d.layTo keep k := by rw [layTo_step d keep k xn hkd hxi, HKB.out]; rfl
          have hns := nowTo_set d keep k xn hkd hxi
          rw [hlay, hy] at hns
          have HNS := Lib.hid hns
          have HOB := Lib.hid hobj
          have HLA := Lib.hid (show IsVec P2 wr 9 1 (.slice (some ⟨g2, 0, none⟩) n q2) n (strs (d.layTo keep (k + 1))) from by rw [hlay]; exact hlast)
          have HPE := Lib.hid hpend
          have HMO := Lib.hid hmod
          have dk := ck2
          have hlay' := hlay
          clear hlay hlay' hns hobj hnow hlast hpend hmod hy hx hset2 hset1 hxi hkd
          have d0 : wr.cell? ⟨b, 0, none⟩ = some (.slice (some ⟨g1, 0, none⟩) n q1) := cell_of HOB.out 0
          have d1 : wr.cell? ⟨b, 1, none⟩ = some (.slice (some ⟨g2, 0, none⟩) n q2) := cell_of HOB.out 1
          have msw : ∀ u, Mod (· = g1) wr (wr.setCell ⟨g1, xn, none⟩ u) := fun u => (Mod.refl _ _).setCell _ _ (fun _ => rfl)
          have hbw := heap_lt HOB.out
          have ds0 : ∀ u, (wr.setCell ⟨g1, xn, none⟩ u).cell? ⟨b, 0, none⟩ = some (.slice (some ⟨g1, 0, none⟩) n q1) := fun u => cell_kept d0 (msw u) hbw hb1
          have ds1 : ∀ u, (wr.setCell ⟨g1, xn, none⟩ u).cell? ⟨b, 1, none⟩ = some (.slice (some ⟨g2, 0, none⟩) n q2) := fun u => cell_kept d1 (msw u) hbw hb1
          have dsk : ∀ u, (wr.setCell ⟨g1, xn, none⟩ u).cell? ⟨g2, xn, none⟩ = _ := fun u => cell_kept dk (msw u) hgl2 (show ¬ g2 = g1 from hg21)
          have HMSW := Lib.hid msw
          clear msw
          go_wp2_with fail
          go_region_held3 (fun w' => w'.cell? ⟨b, 0, none⟩ = some (.slice (some ⟨g1, 0, none⟩) n q1) ∧ w'.cell? ⟨b, 1, none⟩ = some (.slice (some ⟨g2, 0, none⟩) n q2) ∧ w'.cell? ⟨g2, xn, none⟩ = some (.string ⟨y.toArray⟩)) (first | exact ⟨d0, d1, dk⟩ | exact ⟨ds0 _, ds1 _, dsk _⟩) (first | fail)
          go_wp2_with fail
          have m1 := (HMSW.out (.string ⟨y.toArray⟩)).drew
          have hno := ((HSET.out (.string ⟨y.toArray⟩) rfl).modNil (Mod.refl nil _).drew)
          rw [strs_set, HNS.out] at hno
          exact ⟨⟨k + 1, by omega, by go_num, (m1.ne b hbw hb1).trans HOB.out, hno, HLA.out.mod m1 (fun j _ hj e => H.out.p12 g1 hg1 (e ▸ hj)), HPE.out.mod m1 (fun j _ hj e => H.out.p13 g1 hg1 (e ▸ hj)), HMO.out.trans m1 (fun j _ e => e ▸ hB _ (.inl hg1))⟩, by simp [intOf]; omega⟩
        · have hlay : d.layTo keep (k + 1) = (d.layTo keep k).set xn x := by rw [layTo_step d keep k xn hkd hxi, HKB.out, hx]; rfl
          have hns := nowTo_set d keep k xn hkd hxi
          rw [hlay, show ((d.layTo keep k).set xn x).getD xn [] = x from by have := HN.out; simp [show xn < (d.layTo keep k).length by rw [DS.layTo_length]; omega]] at hns
          have HNS := Lib.hid hns
          have ms2 : ∀ u, Mod (· = g2) wr (wr.setCell ⟨g2, xn, none⟩ u) := fun u => (Mod.refl _ _).setCell _ _ (fun _ => rfl)
          have hbw0 := heap_lt hobj
          have cs0 : ∀ u, (wr.setCell ⟨g2, xn, none⟩ u).cell? ⟨b, 0, none⟩ = some (.slice (some ⟨g1, 0, none⟩) n q1) := fun u => cell_kept c0 (ms2 u) hbw0 hb2
          have cs1 : ∀ u, (wr.setCell ⟨g2, xn, none⟩ u).cell? ⟨b, 1, none⟩ = some (.slice (some ⟨g2, 0, none⟩) n q2) := fun u => cell_kept c1 (ms2 u) hbw0 hb2
          have csk : ∀ u, (wr.setCell ⟨g2, xn, none⟩ u).cell? ⟨g1, xn, none⟩ = some (.string ⟨x.toArray⟩) := fun u => cell_kept ck1 (ms2 u) hgl1 (show ¬ g1 = g2 from Ne.symm hg21)
          have m5 := (ms2 (.string ⟨x.toArray⟩)).drew
          have hla5 := (hset2 (.string ⟨x.toArray⟩) rfl).modNil (Mod.refl nil _).drew
          rw [strs_set, ← hlay] at hla5
          have hno5 := hnow.mod m5 (fun j _ hj e => H.out.p12 j hj (e ▸ hg2))
          obtain ⟨_, _, hv1, _, hgl15, _, fk15, hset5⟩ := vec_set hno5 xn hxn
          simp only [Value.slice.injEq, Option.some.injEq, Addr.mk.injEq, and_true, true_and] at hv1
          obtain ⟨rfl, rfl⟩ := hv1
          have HSET5 := Lib.hid hset5
          have HOB := Lib.hid ((m5.ne b hbw0 hb2).trans hobj)
          have HLA := Lib.hid hla5
          have HPE := Lib.hid (hpend.mod m5 (fun j _ hj e => H.out.p23 g2 hg2 (e ▸ hj)))
          have HMO := Lib.hid (hmod.trans m5 (fun j _ e => e ▸ hB _ (.inr (.inl hg2))))
          have hgl25 : g2 < ((wr.setCell ⟨g2, xn, none⟩ (.string ⟨x.toArray⟩)).drew).heap.size := Nat.lt_of_lt_of_le hgl2 m5.size
          have dk5 : ((wr.setCell ⟨g2, xn, none⟩ (.string ⟨x.toArray⟩)).drew).cell? ⟨g2, xn, none⟩ = some (.string ⟨x.toArray⟩) := by
            obtain ⟨_, _, hv2, _, _, ck, _, _⟩ := vec_set hla5 xn hxn
            simp only [Value.slice.injEq, Option.some.injEq, Addr.mk.injEq, and_true, true_and] at hv2
            obtain ⟨rfl, rfl⟩ := hv2
            rw [ck, hlay, strs_getD _ _ (by have := HN.out; simp [DS.layTo_length]; omega)]
            have := HN.out
            simp [show xn < (d.layTo keep k).length by rw [DS.layTo_length]; omega]
          clear hlay hns hobj hnow hlast hpend hmod hy hx hset2 hset1 hset5 hxi hkd ms2 m5 hla5 hno5 HSET hgl1
          go_wp2_with fail
          go_region_held3 (fun w' => w'.cell? ⟨b, 0, none⟩ = some (.slice (some ⟨g1, 0, none⟩) n q1) ∧ w'.cell? ⟨b, 1, none⟩ = some (.slice (some ⟨g2, 0, none⟩) n q2) ∧ w'.cell? ⟨g1, xn, none⟩ = some (.string ⟨x.toArray⟩)) (first | exact ⟨c0, c1, ck1⟩ | exact ⟨cs0 _, cs1 _, csk _⟩) (first | fail)
          have ck15 : ((wr.setCell ⟨g2, xn, none⟩ (.string ⟨x.toArray⟩)).drew).cell? ⟨g1, xn, none⟩ = some (.string ⟨x.toArray⟩) := csk (.string ⟨x.toArray⟩)
          clear cs0 cs1 csk c0 c1 c2 ck1 ck2 ck3 fk1 fk2 hck8 hgl2
          generalize (wr.setCell ⟨g2, xn, none⟩ (.string ⟨x.toArray⟩)).drew = w5 at fk15 HSET5 HOB HLA HPE HMO hgl15 hgl25 dk5 ck15 ⊢
          have hgl2 := hgl25
          have dk := dk5
          have HSET := HSET5
          have d0 : w5.cell? ⟨b, 0, none⟩ = some (.slice (some ⟨g1, 0, none⟩) n q1) := cell_of HOB.out 0
          have d1 : w5.cell? ⟨b, 1, none⟩ = some (.slice (some ⟨g2, 0, none⟩) n q2) := cell_of HOB.out 1
          have msw : ∀ u, Mod (· = g1) w5 (w5.setCell ⟨g1, xn, none⟩ u) := fun u => (Mod.refl _ _).setCell _ _ (fun _ => rfl)
          have hbw := heap_lt HOB.out
          have ds0 : ∀ u, (w5.setCell ⟨g1, xn, none⟩ u).cell? ⟨b, 0, none⟩ = some (.slice (some ⟨g1, 0, none⟩) n q1) := fun u => cell_kept d0 (msw u) hbw hb1
          have ds1 : ∀ u, (w5.setCell ⟨g1, xn, none⟩ u).cell? ⟨b, 1, none⟩ = some (.slice (some ⟨g2, 0, none⟩) n q2) := fun u => cell_kept d1 (msw u) hbw hb1
          have dsk : ∀ u, (w5.setCell ⟨g1, xn, none⟩ u).cell? ⟨g2, xn, none⟩ = _ := fun u => cell_kept dk (msw u) hgl2 (show ¬ g2 = g1 from hg21)
          have HMSW := Lib.hid msw
          clear msw
          go_wp2_with fail
          go_region_held3 (fun w' => w'.cell? ⟨b, 0, none⟩ = some (.slice (some ⟨g1, 0, none⟩) n q1) ∧ w'.cell? ⟨b, 1, none⟩ = some (.slice (some ⟨g2, 0, none⟩) n q2) ∧ w'.cell? ⟨g2, xn, none⟩ = some (.string ⟨x.toArray⟩)) (first | exact ⟨d0, d1, dk⟩ | exact ⟨ds0 _, ds1 _, dsk _⟩) (first | fail)
          go_wp2_with fail
          have m1 := (HMSW.out (.string ⟨x.toArray⟩)).drew
          have hno := ((HSET.out (.string ⟨x.toArray⟩) rfl).modNil (Mod.refl nil _).drew)
          rw [strs_set, HNS.out] at hno
          exact ⟨⟨k + 1, by omega, by go_num, (m1.ne b hbw hb1).trans HOB.out, hno, HLA.out.mod m1 (fun j _ hj e => H.out.p12 g1 hg1 (e ▸ hj)), HPE.out.mod m1 (fun j _ hj e => H.out.p13 g1 hg1 (e ▸ hj)), HMO.out.trans m1 (fun j _ e => e ▸ hB _ (.inl hg1))⟩, by simp [intOf]; omega⟩
      · have hkb' : kb = false := by rw [← hkb]; have := HM.out; simp [show keep.length ≤ k by omega]
        subst hkb'
        have hlay : d.layTo keep (k + 1) = d.layTo keep k := by rw [layTo_step d keep k xn hkd hxi, HKB.out]; rfl
        have hns := nowTo_set d keep k xn hkd hxi
        rw [hlay, hy] at hns
        have HNS := Lib.hid hns
        have HOB := Lib.hid hobj
        have HLA := Lib.hid (show IsVec P2 wr 9 1 (.slice (some ⟨g2, 0, none⟩) n q2) n (strs (d.layTo keep (k + 1))) from by rw [hlay]; exact hlast)
        have HPE := Lib.hid hpend
        have HMO := Lib.hid hmod
        have dk := ck2
        have hlay' := hlay
        clear hlay hlay' hns hobj hnow hlast hpend hmod hy hx hset2 hset1 hxi hkd
        have d0 : wr.cell? ⟨b, 0, none⟩ = some (.slice (some ⟨g1, 0, none⟩) n q1) := cell_of HOB.out 0
        have d1 : wr.cell? ⟨b, 1, none⟩ = some (.slice (some ⟨g2, 0, none⟩) n q2) := cell_of HOB.out 1
        have msw : ∀ u, Mod (· = g1) wr (wr.setCell ⟨g1, xn, none⟩ u) := fun u => (Mod.refl _ _).setCell _ _ (fun _ => rfl)
        have hbw := heap_lt HOB.out
        have ds0 : ∀ u, (wr.setCell ⟨g1, xn, none⟩ u).cell? ⟨b, 0, none⟩ = some (.slice (some ⟨g1, 0, none⟩) n q1) := fun u => cell_kept d0 (msw u) hbw hb1
        have ds1 : ∀ u, (wr.setCell ⟨g1, xn, none⟩ u).cell? ⟨b, 1, none⟩ = some (.slice (some ⟨g2, 0, none⟩) n q2) := fun u => cell_kept d1 (msw u) hbw hb1
        have dsk : ∀ u, (wr.setCell ⟨g1, xn, none⟩ u).cell? ⟨g2, xn, none⟩ = _ := fun u => cell_kept dk (msw u) hgl2 (show ¬ g2 = g1 from hg21)
        have HMSW := Lib.hid msw
        clear msw
        go_wp2_with fail
        go_region_held3 (fun w' => w'.cell? ⟨b, 0, none⟩ = some (.slice (some ⟨g1, 0, none⟩) n q1) ∧ w'.cell? ⟨b, 1, none⟩ = some (.slice (some ⟨g2, 0, none⟩) n q2) ∧ w'.cell? ⟨g2, xn, none⟩ = some (.string ⟨y.toArray⟩)) (first | exact ⟨d0, d1, dk⟩ | exact ⟨ds0 _, ds1 _, dsk _⟩) (first | fail)
        go_wp2_with fail
        have m1 := (HMSW.out (.string ⟨y.toArray⟩)).drew
        have hno := ((HSET.out (.string ⟨y.toArray⟩) rfl).modNil (Mod.refl nil _).drew)
        rw [strs_set, HNS.out] at hno
        exact ⟨⟨k + 1, by omega, by go_num, (m1.ne b hbw hb1).trans HOB.out, hno, HLA.out.mod m1 (fun j _ hj e => H.out.p12 g1 hg1 (e ▸ hj)), HPE.out.mod m1 (fun j _ hj e => H.out.p13 g1 hg1 (e ▸ hj)), HMO.out.trans m1 (fun j _ e => e ▸ hB _ (.inl hg1))⟩, by simp [intOf]; omega⟩
    · obtain rfl : k = nd := by omega
      have c2 : wr.cell? ⟨b, 2, none⟩ = some (.slice p3 k q3) := cell_of hobj 2
      have f2 : wr.frozen? ⟨b, 2, none⟩ = false := free_of hobj 2
      have ho2 := heap_setCell_same hobj (off := 2) (.slice none 0 0)
      have c3 : (wr.setCell ⟨b, 2, none⟩ (.slice none 0 0)).cell? ⟨b, 3, none⟩ = some (.int .i64 d.fuse) := by rw [cell_of ho2]; rfl
      have f3 : (wr.setCell ⟨b, 2, none⟩ (.slice none 0 0)).frozen? ⟨b, 3, none⟩ = false := free_of ho2 3
      have ho3 := heap_setCell_same ho2 (off := 3) (.int .i64 (-1))
      have c4 : ((wr.setCell ⟨b, 2, none⟩ (.slice none 0 0)).setCell ⟨b, 3, none⟩ (.int .i64 (-1))).cell? ⟨b, 4, none⟩ = some (.bool d.down) := by rw [cell_of ho3]; rfl
      have f4 : ((wr.setCell ⟨b, 2, none⟩ (.slice none 0 0)).setCell ⟨b, 3, none⟩ (.int .i64 (-1))).frozen? ⟨b, 4, none⟩ = false := free_of ho3 4
      have HO3 := Lib.hid ho3
      clear ho2 ho3 hobj
      go_wp2_with fail
      (try simp only [Exit.inBlock, Exit.then]); refine bodyPost_end (results_none rfl _ _ _) rfl ?_
      have hm3 : Mod (· = b) wr (((wr.setCell ⟨b, 2, none⟩ (.slice none 0 0)).setCell ⟨b, 3, none⟩ (.int .i64 (-1))).setCell ⟨b, 4, none⟩ (.bool false)) := (((Mod.refl (· = b) wr).setCell ⟨b, 2, none⟩ _ (fun _ => rfl)).setCell ⟨b, 3, none⟩ _ (fun _ => rfl)).setCell ⟨b, 4, none⟩ _ (fun _ => rfl)
      have hcr : d.crash keep = ⟨d.layTo keep k, [], -1, false⟩ := by unfold DS.crash; rw [HND.out]
      have hll : (d.layTo keep k).length = n := by rw [DS.layTo_length, HN.out]
      have hall : d.nowTo keep k = d.layTo keep k := by have h := nowTo_all d keep (fun x hx => (HDR.out x hx).1); rwa [HND.out] at h
      rw [hcr]
      rw [hall] at hnow
      refine ⟨rfl, ⟨P1, P2, fun _ => False, .slice p1 n q1, .slice p2 n q2, .slice none 0 0, ?_, hb, fun j hj => hj.elim (fun h => hB j (.inl h)) (fun h => h.elim (fun h => hB j (.inr (.inl h))) False.elim)⟩, hmod.trans hm3 (fun j _ e => e ▸ hb)⟩
      exact { obj := heap_setCell_same HO3.out _
              now := by
                have := hnow.mod hm3 (fun j _ hj e => H.out.p1 (e ▸ hj))
                simp only [curs_none, hll]
                exact this
              last := by simp only [hll]; exact hlast.mod hm3 (fun j _ hj e => H.out.p2 (e ▸ hj))
              pend := by simpa [DS.dirt, asc] using IsVec.nil (fun _ => False) _ 3 1
              p1 := H.out.p1, p2 := H.out.p2, p3 := id, p12 := H.out.p12, p13 := fun _ _ => id, p23 := fun _ _ => id
              fz := by simp, keys := by simp, room := by simp only [hll]; exact hroom, nodup := by simp }
end Go.Proofs.YtjilbnpehgigjaaGreat

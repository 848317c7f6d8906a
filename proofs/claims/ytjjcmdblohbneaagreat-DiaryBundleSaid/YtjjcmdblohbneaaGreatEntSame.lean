/- Package chain: Same. -/
import Derived.Test.YtjjcmdblohbneaaGreatEnts
import Derived.Test.YtjjcmdblohbneaaGreatBytesB
namespace Go.Proofs.YtjjcmdblohbneaaGreat
open Go.RowKit
theorem entSame1 (S T : Nat → Prop) (k1 k2 : Int) (pa pb : Option Addr) (na ca nb cb : Nat) (la lb : List UInt8) (w : World) (ha : IsRow S w (.slice pa na ca) (bys la)) (hb : IsRow T w (.slice pb nb cb) (bys lb)) :
    Calls Tryz.prog 41 #[.agg #[.int .i64 k1, .slice pa na ca], .agg #[.int .i64 k2, .slice pb nb cb]] w fun e w' => e = .returned (.bool (decide (En.mk k1 la = En.mk k2 lb))) ∧ Mod nil w w' := by
  refine (?_ : ∀ Post : Ending → World → Prop, Hid (∀ e w', (e = .returned (.bool (decide (En.mk k1 la = En.mk k2 lb))) ∧ Mod nil w w') → Post e w') → Calls Tryz.prog 41 #[.agg #[.int .i64 k1, .slice pa na ca], .agg #[.int .i64 k2, .slice pb nb cb]] w Post) _ (Lib.hid (fun _ _ h => h))
  intro Post HPOST
  have HM : Hid (∀ o1 o2, Mod nil w ((w.alloc o1).alloc o2)) := Lib.hid (fun o1 o2 => ((Mod.refl _ _).alloc _).alloc _)
  have HC : Hid (∀ W, Mod nil w W → Calls Tryz.prog 42 #[.slice pa na ca, .slice pb nb cb] W fun e w' => e = .returned (.bool (decide (la = lb))) ∧ W = w') := Lib.hid (fun W m => bytesEqual S T _ _ la lb W (ha.modNil m) (hb.modNil m))
  clear ha hb
  by_cases hk : k1 = k2
  · subst hk
    have HE : Hid (∀ o1 o2, Post (.returned (.bool (decide (la = lb)))) ((w.alloc o1).alloc o2)) := Lib.hid (fun o1 o2 => HPOST.out _ _ ⟨by simp, HM.out o1 o2⟩)
    have hkk : (k1 == k1) = true := by simp
    obtain ⟨r, hr⟩ : ∃ r, decide (la = lb) = r := ⟨_, rfl⟩
    rw [hr] at HC HE
    clear hr
    go_enter Tryz.func41, Tryz.ntmps41
    go_wp2_with fail
    refine (HC.out _ (HM.out _ _)).mono ?_
    rintro e w' ⟨rfl, rfl⟩
    go_wp2_with fail
    exact HE.out _ _
  · have HE : Hid (∀ o1 o2, Post (.returned (.bool false)) ((w.alloc o1).alloc o2)) := Lib.hid (fun o1 o2 => HPOST.out _ _ ⟨by simp [hk], HM.out o1 o2⟩)
    have hkk : (k1 == k2) = false := by simp [hk]
    clear hk
    go_enter Tryz.func41, Tryz.ntmps41
    go_wp2_with fail
    exact HE.out _ _
set_option maxRecDepth 100000 in
set_option maxHeartbeats 2000000 in
theorem equalEnts (S T : Nat → Prop) (pa pb : Option Addr) (na ca nb cb : Nat) (la lb : List En) (w : World) (ha : IsEns S w (.slice pa na ca) la) (hb : IsEns T w (.slice pb nb cb) lb) (hm : na ≤ 1000000) :
    Calls Tryz.prog 40 #[.slice pa na ca, .slice pb nb cb, .func (.func 41) #[] #[]] w fun e w' => e = .returned (.bool (decide (la = lb))) ∧ Mod nil w w' := by
  refine (?_ : ∀ Post : Ending → World → Prop, Hid (∀ e w', (e = .returned (.bool (decide (la = lb))) ∧ Mod nil w w') → Post e w') → Calls Tryz.prog 40 #[.slice pa na ca, .slice pb nb cb, .func (.func 41) #[] #[]] w Post) _ (Lib.hid (fun _ _ h => h))
  intro Post HPOST
  have hla : la.length = na := by obtain ⟨_, _, h⟩ := ha.form; simp only [Value.slice.injEq] at h; exact h.2.1.symm
  have hlb : lb.length = nb := by obtain ⟨_, _, h⟩ := hb.form; simp only [Value.slice.injEq] at h; exact h.2.1.symm
  by_cases hnm : na = nb
  · subst hnm
    have HA := Lib.hid ha
    have HB := Lib.hid hb
    have HLA := Lib.hid hla
    have HLB := Lib.hid hlb
    have hne : ((na : Int) != (na : Int)) = false := by simp
    clear ha hb hla hlb
    go_enter Tryz.func40, Tryz.ntmps40
    go_wp2_with fail
    clear hne
    go_loopw [17] (fun v wr => ∃ i : Nat, i ≤ na ∧ v = .int .i64 i ∧ Hid (la.take i = lb.take i) ∧ Hid (Mod nil w wr)) (fun v _ => na - (intOf v).toNat)
    case atStart => exact ⟨0, by omega, rfl, Lib.hid (by simp), Lib.hid (Mod.refl _ _)⟩
    case round =>
      obtain ⟨i, hi, rfl, HTK, HM⟩ := hrel
      by_cases hlt : i < na
      · have hia : i < la.length := by rw [HLA.out]; exact hlt
        have hib : i < lb.length := by rw [HLB.out]; exact hlt
        obtain ⟨ba, oa, va, rfl, -, hal, k0, k1, hxa⟩ := (HA.out.modNil HM.out).at i hia
        obtain ⟨bb, ob, vb, rfl, -, hbl, q0, q1, hxb⟩ := (HB.out.modNil HM.out).at i hib
        have HTA : Hid (la.take (i + 1) = la.take i ++ [la[i]]) := Lib.hid (List.take_succ_eq_append_getElem hia)
        have HTB : Hid (lb.take (i + 1) = lb.take i ++ [lb[i]]) := Lib.hid (List.take_succ_eq_append_getElem hib)
        obtain ⟨x, hx⟩ : ∃ x, la[i] = x := ⟨_, rfl⟩
        obtain ⟨y, hy⟩ : ∃ y, lb[i] = y := ⟨_, rfl⟩
        rw [hx] at k0 hxa HTA
        rw [hy] at q0 hxb HTB
        obtain ⟨kx, bx⟩ := x
        obtain ⟨ky, bY⟩ := y
        simp only at k0 q0 hxa hxb
        obtain ⟨p1, c1, rfl, -⟩ := id hxa
        obtain ⟨p2, c2, rfl, -⟩ := id hxb
        rw [bys_length] at k1 q1 hxa hxb
        obtain ⟨n1, hn1⟩ : ∃ n1, bx.length = n1 := ⟨_, rfl⟩
        obtain ⟨n2, hn2⟩ : ∃ n2, bY.length = n2 := ⟨_, rfl⟩
        rw [hn1] at k1 hxa
        rw [hn2] at q1 hxb
        have HC : Hid (∀ W, Mod nil wr W → Calls Tryz.prog 41 #[.agg #[.int .i64 kx, .slice p1 n1 c1], .agg #[.int .i64 ky, .slice p2 n2 c2]] W fun e w' => e = .returned (.bool (decide (En.mk kx bx = En.mk ky bY))) ∧ Mod nil W w') := Lib.hid (fun W m => entSame1 _ _ kx ky p1 p2 n1 c1 n2 c2 bx bY W (hxa.modNil m) (hxb.modNil m))
        have q0a := fun ob : Obj => cell_kept q0 ((Mod.refl nil wr).alloc ob) hbl (not_nil _)
        have q1a := fun ob : Obj => cell_kept q1 ((Mod.refl nil wr).alloc ob) hbl (not_nil _)
        clear hx hy hxa hxb hn1 hn2
        go_upto_region 7 with (fail)
        generalize hw1 : World.alloc (World.alloc wr _) _ = w1
        have hm1 : Mod nil wr w1 := by rw [← hw1]; exact ((Mod.refl _ _).alloc _).alloc _
        have hb1 : w1.heap[wr.heap.size]? = some (.cells #[.int .i64 kx, .slice p1 n1 c1] 36 (0, 0)) := by rw [← hw1]; exact heap_alloc_old (heap_alloc_new _ _)
        have hb2 : w1.heap[wr.heap.size + 1]? = some (.cells #[.int .i64 ky, .slice p2 n2 c2] 36 (0, 0)) := by
          rw [← hw1]
          have h := heap_alloc_new (wr.alloc (.cells #[.int .i64 kx, .slice p1 n1 c1] 36)) (.cells #[.int .i64 ky, .slice p2 n2 c2] 36)
          rw [World.size_alloc] at h
          exact h
        have x0 := cell_of hb1 0
        have x1 := cell_of hb1 1
        have z0 := cell_of hb2 0
        have z1 := cell_of hb2 1
        simp only [List.getElem?_toArray, List.getElem?_cons_zero, List.getElem?_cons_succ] at x0 x1 z0 z1
        have HM1 := Lib.hid hm1
        clear hw1 hm1 hb1 hb2 k0 k1 q0 q1 q0a q1a
        by_cases hxy : En.mk kx bx = En.mk ky bY
        · rw [decide_eq_true hxy] at HC
          have HN : Hid (la.take (i + 1) = lb.take (i + 1)) := Lib.hid (by rw [HTA.out, HTB.out, HTK.out, hxy])
          clear HTA HTB hxy
          go_wp2_with fail
          refine (HC.out _ HM1.out).mono ?_
          rintro e w' ⟨rfl, hm'⟩
          have HM2 := Lib.hid ((HM.out.thenNil HM1.out).thenNil hm')
          clear hm' x0 x1 z0 z1
          go_wp2_with fail
          exact ⟨⟨i + 1, by omega, by go_num, HN, HM2⟩, by simp [intOf]; omega⟩
        · rw [decide_eq_false hxy] at HC
          have HNE : Hid (¬ la = lb) := Lib.hid (by
            intro e
            have h1 := HTA.out
            rw [e, HTB.out] at h1
            have h2 := List.append_cancel_left h1
            exact hxy (List.cons.inj h2).1.symm)
          clear HTA HTB hxy
          go_wp2_with fail
          refine (HC.out _ HM1.out).mono ?_
          rintro e w' ⟨rfl, hm'⟩
          have HE : Hid (Post (.returned (.bool false)) w') := Lib.hid (HPOST.out _ _ ⟨by rw [decide_eq_false HNE.out], (HM.out.thenNil HM1.out).thenNil hm'⟩)
          clear hm' x0 x1 z0 z1
          go_wp2_with fail
          exact HE.out
      · obtain rfl : i = na := by omega
        have HEND : Hid (Post (.returned (.bool true)) wr) := Lib.hid (HPOST.out _ _ ⟨by
          have h := HTK.out
          rw [List.take_of_length_le (by rw [HLA.out]; exact Nat.le_refl _), List.take_of_length_le (by rw [HLB.out]; exact Nat.le_refl _)] at h
          rw [decide_eq_true h], HM.out⟩)
        clear HTK HM
        go_wp2_with fail
        exact HEND.out
  · have hne : ((na : Int) != (nb : Int)) = true := by rw [bne_iff_ne]; omega
    have HEND : Hid (Post (.returned (.bool false)) w) := Lib.hid (HPOST.out _ _ ⟨by rw [decide_eq_false]; intro e; rw [e] at hla; omega, Mod.refl _ _⟩)
    clear ha hb hla hlb
    go_enter Tryz.func40, Tryz.ntmps40
    go_wp2_with fail
    exact HEND.out
theorem chainSame (S T : Nat → Prop) (pa pb : Option Addr) (na ca nb cb : Nat) (la lb : List En) (w : World) (ha : IsEns S w (.slice pa na ca) la) (hb : IsEns T w (.slice pb nb cb) lb) (hm : na ≤ 1000000) :
    Calls Tryz.prog 12 #[.slice pa na ca, .slice pb nb cb] w fun e w' => e = .returned (.bool (decide (la = lb))) ∧ Mod nil w w' := by
  have H := Lib.hid (equalEnts S T pa pb na ca nb cb la lb w ha hb hm)
  obtain ⟨r, hr⟩ : ∃ r, decide (la = lb) = r := ⟨_, rfl⟩
  rw [hr] at H ⊢
  clear ha hb hr
  go_enter Tryz.func12, Tryz.ntmps12
  go_wp2_with fail
  refine H.out.mono ?_
  rintro e w' ⟨rfl, hm'⟩
  have HM := Lib.hid hm'
  clear hm'
  go_wp2_with fail
  go_ret
  exact ⟨rfl, HM.out⟩
end Go.Proofs.YtjjcmdblohbneaaGreat

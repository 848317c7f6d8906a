/- Bytes as texts; cflref.Bytes. -/
import Derived.Test.YtjilbnpehgigjaaGreatRdB
import Derived.Laws.IdiomStrings
import Derived.Lib.BufferRead
import Derived.Test.YtjilbnpehgigjaaGreatTexts
namespace Go.Proofs.YtjilbnpehgigjaaGreat
open Go.RowKit

/-- a row of bytes as a text -/
theorem rowText {T : Nat → Prop} {w : World} {v : Value} {l : List UInt8} (h : IsRow T w v (bys l)) :
    (convert 22 9 v).run Tryz.prog w = .ok (.string ⟨l.toArray⟩) w := by
  obtain ⟨p, c, rfl, hc⟩ := h
  rw [bys_length] at *
  cases p with
  | none =>
    have h0 : l = [] := by
      rcases l with _ | ⟨a, l⟩
      · rfl
      · obtain ⟨b, off, h1, _⟩ := hc 0 (by simp); cases h1
    subst h0
    exact Lib.run_convert_nil_bytes w _ _ 5 c Tryz.underlying22 Tryz.underlying5 Tryz.underlying9
  | some a =>
    refine run_convert_bytes_back w _ _ 5 a c l Tryz.underlying22 Tryz.underlying5 Tryz.underlying9 (fun j hj => ?_)
    obtain ⟨b, off, h1, _, _, h2⟩ := hc j hj
    simp only [Option.some.injEq] at h1
    subst h1
    have e : (⟨b, off, none⟩ : Addr).add j = ⟨b, off + j, none⟩ := by unfold Addr.add; split <;> simp_all
    rw [e, h2, bys_getD _ _ hj]
    simp [hj]
theorem refBytesSame (S T : Nat → Prop) (va vb : Value) (la lb : List UInt8) (w : World) (ha : IsRow S w va (bys la)) (hb : IsRow T w vb (bys lb)) :
    Calls Tryz.prog 54 #[va, vb] w fun e w' => e = .returned (.bool (decide (la = lb))) ∧ w = w' := by
  have ra := rowText (ha.modNil (Mod.refl nil w))
  have rb := rowText (hb.modNil (Mod.refl nil w))
  obtain ⟨pa, ca, rfl, _⟩ := ha
  obtain ⟨pb, cb, rfl, _⟩ := hb
  go_enter Tryz.func54, Tryz.ntmps54
  go_wp2_with fail
  go_ret
  exact ⟨congrArg Ending.returned (congrArg Value.bool (show (la == lb) = decide (la = lb) from by rw [Bool.eq_iff_iff]; simp)), rfl⟩
end Go.Proofs.YtjilbnpehgigjaaGreat

/- bytes.Clone, bytes.Equal. -/
namespace Go.Proofs.YtjilbnpehgigjaaGreat
open Go.RowKit
theorem bytesClone (T : Nat → Prop) (v : Value) (l : List UInt8) (w : World) (h : IsRow T w v (bys l)) (hl : l.length ≤ 140737488355328) :
    Calls Tryz.prog 36 #[v] w fun e w' => ∃ v', e = .returned v' ∧ IsVec (fun k => w.heap.size ≤ k) w' 5 1 v' l.length (bys l) ∧ Mod nil w w' := by
  obtain ⟨p, c, rfl, hc⟩ := id h
  rw [bys_length] at *
  have heq := Lib.run_eql_slice_nil (P := Tryz.prog) w 22 5 p l.length c 0 0 Tryz.underlying22
  cases p with
  | none =>
    have h0 : l = [] := by
      rcases l with _ | ⟨a, l⟩
      · rfl
      · obtain ⟨b, off, h1, _⟩ := hc 0 (by simp); cases h1
    subst h0
    clear hl hc h
    simp only [List.length_nil, Option.isNone_none] at heq
    go_enter Tryz.func36, Tryz.ntmps36
    go_wp2
    go_ret
    exact ⟨_, rfl, IsVec.nil _ _ _ _, Mod.refl _ _⟩
  | some a =>
    have hv := vec_empty w 5 1
    have hx := h.modNil ((Mod.refl nil w).alloc (.cells #[] 5))
    obtain ⟨v', w', hrun, hvec, hmod⟩ := bytes_append (l := []) 22 hv hx (by simpa using hl)
    simp only [List.nil_append] at hvec
    clear hv hx h hl hc
    simp only [Option.isNone_some] at heq
    have HR := Lib.hid hrun
    clear hrun
    go_enter Tryz.func36, Tryz.ntmps36
    go_wp2_with (at_builtin; refine wpList_append_run rfl _ _ _ _ rfl rfl rfl HR.out ?_)
    go_ret
    exact ⟨_, rfl, hvec.mono (fun k _ hk => by rcases hk with hk | hk; exact hk; simp at hk; omega), ((Mod.refl nil w).alloc _).new hmod (fun _ h => h)⟩
theorem bytesEqual (S T : Nat → Prop) (va vb : Value) (la lb : List UInt8) (w : World) (ha : IsRow S w va (bys la)) (hb : IsRow T w vb (bys lb)) :
    Calls Tryz.prog 77 #[va, vb] w fun e w' => e = .returned (.bool (decide (la = lb))) ∧ w = w' := by
  have ra := rowText (ha.modNil (Mod.refl nil w))
  have rb := rowText (hb.modNil (Mod.refl nil w))
  obtain ⟨pa, ca, rfl, _⟩ := ha
  obtain ⟨pb, cb, rfl, _⟩ := hb
  go_enter Tryz.func77, Tryz.ntmps77
  go_wp2_with fail
  go_ret
  exact ⟨congrArg Ending.returned (congrArg Value.bool (show (la == lb) = decide (la = lb) from by rw [Bool.eq_iff_iff]; simp)), rfl⟩
end Go.Proofs.YtjilbnpehgigjaaGreat

/- cflref.Bytes and cflref.Lists. -/
namespace Go.Proofs.YtjilbnpehgigjaaGreat
open Go.RowKit
theorem list_eq (la lb : List UInt8) : (la == lb) = decide (la = lb) := by rw [Bool.eq_iff_iff]; simp
theorem list_ne (la lb : List UInt8) : (la != lb) = !decide (la = lb) := by rw [bne, list_eq]
theorem refBytesW (S T : Nat → Prop) (va vb : Value) (la lb : List UInt8) (w : World) (ha : IsRow S w va (bys la)) (hb : IsRow T w vb (bys lb)) :
    Calls Tryz.prog 54 #[va, vb] w fun e w' => e = .returned (.bool (decide (la = lb))) ∧ w = w' := by
  have ra := rowText (ha.modNil (Mod.refl nil w))
  have rb := rowText (hb.modNil (Mod.refl nil w))
  obtain ⟨pa, ca, rfl, _⟩ := ha
  obtain ⟨pb, cb, rfl, _⟩ := hb
  go_enter Tryz.func54, Tryz.ntmps54
  go_wp2_with fail
  go_ret
  exact ⟨congrArg Ending.returned (congrArg Value.bool (list_eq la lb)), rfl⟩
set_option maxRecDepth 100000 in
set_option maxHeartbeats 1000000 in
theorem refLists (S T : Nat → Prop) (va vb : Value) (n m : Nat) (la lb : List (List UInt8)) (w : World) (ha : IsTexts S w va n la) (hb : IsTexts T w vb m lb) (hn : n ≤ 100000) :
    Calls Tryz.prog 14 #[va, vb] w fun e w' => e = .returned (.bool (decide (la = lb))) ∧ ∃ k, w' = w.drewN k := by
  refine (?_ : ∀ Post : Ending → World → Prop, Hid (∀ e w', (e = .returned (.bool (decide (la = lb))) ∧ ∃ k, w' = w.drewN k) → Post e w') → Calls Tryz.prog 14 #[va, vb] w Post) _ (Lib.hid (fun _ _ h => h))
  intro Post HPOST
  obtain ⟨pa, ca, rfl⟩ := ha.form
  obtain ⟨pb, cb, rfl⟩ := hb.form
  have hla := ha.len
  have hlb := hb.len
  by_cases hnm : n = m
  · subst hnm
    have HA := Lib.hid ha
    have HB := Lib.hid hb
    have HLA := Lib.hid hla
    have HLB := Lib.hid hlb
    clear ha hb hla hlb
    have hne : ((n : Int) != (n : Int)) = false := by simp
    go_enter Tryz.func14, Tryz.ntmps14
    go_wp2_with fail
    clear hne
    go_loopw [5] (fun v wr => ∃ i k : Nat, i ≤ n ∧ v = .int .i64 i ∧ Hid (la.take i = lb.take i) ∧ wr = w.drewN k) (fun v _ => n - (intOf v).toNat)
    case atStart => exact ⟨0, 0, by omega, rfl, Lib.hid (by simp), rfl⟩
    case round =>
      obtain ⟨i, k, hi, rfl, HTK, rfl⟩ := hrel
      by_cases hlt : i < n
      · obtain ⟨ga, xa, rfl, hga, hxa, hra⟩ := HA.out.at i hlt
        obtain ⟨gb, xb, rfl, hgb, hxb, hrb⟩ := HB.out.at i hlt
        obtain ⟨ta, hta⟩ : ∃ t, la.getD i [] = t := ⟨_, rfl⟩
        obtain ⟨tb, htb⟩ : ∃ t, lb.getD i [] = t := ⟨_, rfl⟩
        rw [hta] at hra
        rw [htb] at hrb
        have rta : ∀ n, (convert 22 9 xa).run Tryz.prog (w.drewN n) = .ok (.string ⟨ta.toArray⟩) (w.drewN n) := fun n => rowText (hra.modNil ((Mod.refl nil w).drewN n))
        have rtb : ∀ n, (convert 22 9 xb).run Tryz.prog (w.drewN n) = .ok (.string ⟨tb.toArray⟩) (w.drewN n) := fun n => rowText (hrb.modNil ((Mod.refl nil w).drewN n))
        have ra : ∃ p c, xa = .slice p ta.length c := by obtain ⟨p, c, h, _⟩ := hra; rw [bys_length] at h; exact ⟨p, c, h⟩
        have rb : ∃ p c, xb = .slice p tb.length c := by obtain ⟨p, c, h, _⟩ := hrb; rw [bys_length] at h; exact ⟨p, c, h⟩
        have HS : Hid (la.take (i + 1) = la.take i ++ [ta] ∧ lb.take (i + 1) = lb.take i ++ [tb]) := Lib.hid (by
          rw [← hta, ← htb]
          refine ⟨?_, ?_⟩
          · rw [List.take_succ_eq_append_getElem (by rw [HLA.out]; exact hlt), List.getD_eq_getElem?_getD, List.getElem?_eq_getElem (by rw [HLA.out]; exact hlt)]; rfl
          · rw [List.take_succ_eq_append_getElem (by rw [HLB.out]; exact hlt), List.getD_eq_getElem?_getD, List.getElem?_eq_getElem (by rw [HLB.out]; exact hlt)]; rfl)
        clear hra hrb hta htb
        obtain ⟨p1, c1, hc1⟩ : ∃ p c, xa = .slice p ta.length c := ra
        obtain ⟨p2, c2, hc2⟩ : ∃ p c, xb = .slice p tb.length c := rb
        subst hc1 hc2
        have hbn := list_eq ta tb
        by_cases hab : ta = tb
        · subst hab
          rw [decide_eq_true rfl] at hbn
          go_upto_region 6 with (fail)
          go_quiet (fail)
          go_wp2_with fail
          exact ⟨⟨i + 1, _, by omega, by go_num, Lib.hid (by rw [HS.out.1, HS.out.2, HTK.out]), rfl⟩, by simp [intOf]; omega⟩
        · rw [decide_eq_false hab] at hbn
          have HE : Hid (∀ j, Post (.returned (.bool false)) ((w.drewN k).drewN j)) := Lib.hid (fun j => HPOST.out _ _ ⟨by
            rw [decide_eq_false]
            intro e
            have h1 := HS.out.1
            rw [e, HS.out.2] at h1
            have h2 := List.append_cancel_left h1
            exact hab (by simpa using h2.symm), _, World.drewN_drewN ..⟩)
          go_upto_region 6 with (fail)
          go_quiet (fail)
          go_wp2_with fail
          exact HE.out _
      · obtain rfl : i = n := by omega
        have HEND : Hid (Post (.returned (.bool true)) (w.drewN k)) := Lib.hid (HPOST.out _ _ ⟨by
          have h := HTK.out
          rw [List.take_of_length_le (by rw [HLA.out]; exact Nat.le_refl _), List.take_of_length_le (by rw [HLB.out]; exact Nat.le_refl _)] at h
          rw [decide_eq_true h], _, rfl⟩)
        go_wp2_with fail
        exact HEND.out
  · have hne : ((n : Int) != (m : Int)) = true := by rw [bne_iff_ne]; omega
    have HEND : Hid (Post (.returned (.bool false)) w) := Lib.hid (HPOST.out _ _ ⟨by rw [decide_eq_false]; intro e; rw [e] at hla; omega, 0, rfl⟩)
    clear ha hb hla hlb
    go_enter Tryz.func14, Tryz.ntmps14
    go_wp2_with fail
    exact HEND.out
end Go.Proofs.YtjilbnpehgigjaaGreat

/- Package plan: times, Gap, parties. -/
import Derived.Test.YtdfpmlfdmhlhcaaGreatIterI
import Derived.Test.YtdfpmlfdmhlhcaaGreatIds
import Derived.Test.YtdfpmlfdmhlhcaaGreatNum
namespace Go.Proofs.YtdfpmlfdmhlhcaaGreat
open Go.RowKit
theorem sorted_strict {zs : List Int} (hs : zs.Pairwise (· ≤ ·)) (hn : zs.Nodup) : zs.Pairwise (· < ·) :=
  List.Pairwise.imp₂ (fun {a b} (h1 : a ≤ b) (h2 : a ≠ b) => by omega) hs hn
theorem compact_all (zs : List Int) (h : (Lib.compact zs).length = zs.length) : Lib.compact zs = zs := by
  rw [compact_eq] at h ⊢
  rw [List.length_map] at h
  have hf : (List.range zs.length).filter (Lib.keeps zs.toArray) = List.range zs.length := by
    have hsub : ((List.range zs.length).filter (Lib.keeps zs.toArray)).Sublist (List.range zs.length) := List.filter_sublist
    exact hsub.eq_of_length (by rw [h, List.length_range])
  rw [hf]
  apply List.ext_getElem
  · simp
  · intro i h1 h2
    simp [h2]
theorem compact_nodup (l : List Int) : (Lib.compact (asc l)).length = l.length ↔ l.Nodup := by
  constructor
  · intro h
    have h2 := compact_all (asc l) (by rw [h, asc_length])
    have h3 := compact_strict (asc l) (asc_sorted l)
    rw [h2] at h3
    have h4 : (asc l).Nodup := h3.imp (fun h => by omega)
    exact (asc_perm l).nodup_iff.1 h4
  · intro h
    have h4 : (asc l).Nodup := (asc_perm l).nodup_iff.2 h
    rw [strict_eq (fun x => compact_mem (asc l) x) (compact_strict _ (asc_sorted l)) (sorted_strict (asc_sorted l) h4), asc_length]
theorem asc_first {l : List Int} (h : 0 < l.length) : (∀ x ∈ l, (asc l).getD 0 0 ≤ x) ∧ (asc l).getD 0 0 ∈ l := by
  have hl : 0 < (asc l).length := by rw [asc_length]; exact h
  have e : (asc l).getD 0 0 = (asc l)[0] := by simp [hl]
  rw [e]
  refine ⟨fun x hx => ?_, (asc_perm l).mem_iff.1 (List.getElem_mem _)⟩
  obtain ⟨i, hi, rfl⟩ := List.getElem_of_mem ((asc_perm l).mem_iff.2 hx)
  rcases Nat.eq_zero_or_pos i with rfl | h0
  · exact Int.le_refl _
  · exact List.pairwise_iff_getElem.1 (asc_sorted l) 0 i hl hi h0
theorem asc_last {l : List Int} (h : 0 < l.length) : (∀ x ∈ l, x ≤ (asc l).getD (l.length - 1) 0) ∧ (asc l).getD (l.length - 1) 0 ∈ l := by
  have hl : l.length - 1 < (asc l).length := by rw [asc_length]; omega
  have e : (asc l).getD (l.length - 1) 0 = (asc l)[l.length - 1] := by simp [hl]
  rw [e]
  refine ⟨fun x hx => ?_, (asc_perm l).mem_iff.1 (List.getElem_mem _)⟩
  obtain ⟨i, hi, rfl⟩ := List.getElem_of_mem ((asc_perm l).mem_iff.2 hx)
  have hi' : i < l.length := by rw [← asc_length l]; exact hi
  rcases (show i = l.length - 1 ∨ i < l.length - 1 by omega) with rfl | h0
  · exact Int.le_refl _
  · exact List.pairwise_iff_getElem.1 (asc_sorted l) i _ hi hl h0
def partiesN (l : List Int) : Prop := 2 ≤ l.length ∧ l.length ≤ 16 ∧ (∀ x ∈ l, 0 ≤ x ∧ x < 16) ∧ l.Nodup
instance (l : List Int) : Decidable (partiesN l) := inferInstanceAs (Decidable (_ ∧ _))
theorem partiesN_iff (l : List Int) (h1 : 2 ≤ l.length) (h2 : l.length ≤ 16) : partiesN l ↔ 0 ≤ (asc l).getD 0 0 ∧ (asc l).getD (l.length - 1) 0 < 16 ∧ (Lib.compact (asc l)).length = l.length := by
  rw [compact_nodup]
  obtain ⟨f1, f2⟩ := asc_first (l := l) (by omega)
  obtain ⟨z1, z2⟩ := asc_last (l := l) (by omega)
  constructor
  · rintro ⟨-, -, h, hn⟩
    exact ⟨(h _ f2).1, (h _ z2).2, hn⟩
  · rintro ⟨a, b, hn⟩
    exact ⟨h1, h2, fun x hx => ⟨by have := f1 x hx; omega, by have := z1 x hx; omega⟩, hn⟩
def timesN (e w : Int) : Prop := 0 ≤ e ∧ e ≤ 1000 ∧ 1 ≤ w ∧ w ≤ 1000
instance (e w : Int) : Decidable (timesN e w) := inferInstanceAs (Decidable (_ ∧ _))
theorem planTimes (eps wait : Int) (w : World) : Calls Tryz.prog 99 #[.int .i64 eps, .int .i64 wait] w fun e w' => e = .returned (.bool (decide (timesN eps wait))) ∧ w = w' := by
  obtain ⟨b, hb⟩ : ∃ b, decide (timesN eps wait) = b := ⟨_, rfl⟩
  rw [hb]
  have H : (∃ h : timesN eps wait, b = true) ∨ (¬ timesN eps wait ∧ b = false) := by
    by_cases h : timesN eps wait
    · exact .inl ⟨h, by rw [← hb]; exact decide_eq_true h⟩
    · exact .inr ⟨h, by rw [← hb]; exact decide_eq_false h⟩
  clear hb
  rcases H with ⟨⟨h1, h2, h3, h4⟩, rfl⟩ | ⟨h, rfl⟩
  · go_enter Tryz.func99, Tryz.ntmps99
    go_wp2_with fail
    go_ret
    exact ⟨rfl, rfl⟩
  · rcases (show eps < 0 ∨ (0 ≤ eps ∧ ¬ eps ≤ 1000) ∨ (0 ≤ eps ∧ eps ≤ 1000 ∧ wait < 1) ∨ (0 ≤ eps ∧ eps ≤ 1000 ∧ 1 ≤ wait ∧ ¬ wait ≤ 1000) by unfold timesN at h; omega) with h1 | ⟨h1, h2⟩ | ⟨h1, h2, h3⟩ | ⟨h1, h2, h3, h4⟩
    all_goals
      clear h
      go_enter Tryz.func99, Tryz.ntmps99
      go_wp2_with fail
      go_ret
      exact ⟨rfl, rfl⟩
def gapN (e w : Int) : Int := if timesN e w then 2 * e + 2 * w + 2 else 0
theorem planGap (eps wait : Int) (w : World) : Calls Tryz.prog 144 #[.int .i64 eps, .int .i64 wait] w fun e w' => e = .returned (.int .i64 (gapN eps wait)) ∧ w = w' := by
  have HT := Lib.hid (planTimes eps wait w)
  by_cases h : timesN eps wait
  · obtain ⟨G, hG⟩ : ∃ G, 2 * eps + 2 * wait + 2 = G := ⟨_, rfl⟩
    have hg : gapN eps wait = G := by rw [← hG]; exact if_pos h
    have hd := decide_eq_true h
    rw [hd] at HT
    rw [hg]
    have hw1 : IntKind.i64.wrap (2 * eps) = 2 * eps := by unfold timesN at h; rw [IntKind.wrap_i64]; omega
    have hw2 : IntKind.i64.wrap (2 * wait) = 2 * wait := by unfold timesN at h; rw [IntKind.wrap_i64]; omega
    have hw3 : IntKind.i64.wrap (2 * eps + 2 * wait) = 2 * eps + 2 * wait := by unfold timesN at h; rw [IntKind.wrap_i64]; omega
    have hw4 : IntKind.i64.wrap (2 * eps + 2 * wait + 2) = G := by unfold timesN at h; rw [IntKind.wrap_i64]; omega
    obtain ⟨h1, h2, h3, h4⟩ := h
    clear hg hd
    go_enter Tryz.func144, Tryz.ntmps144
    go_wp2_with fail
    refine HT.out.mono ?_
    rintro e w' ⟨rfl, rfl⟩
    go_wp2_with fail
    go_ret
    exact ⟨rfl, rfl⟩
  · have hg : gapN eps wait = 0 := if_neg h
    have hd := decide_eq_false h
    rw [hd] at HT
    rw [hg]
    clear hg hd h
    go_enter Tryz.func144, Tryz.ntmps144
    go_wp2_with fail
    refine HT.out.mono ?_
    rintro e w' ⟨rfl, rfl⟩
    go_wp2_with fail
    go_ret
    exact ⟨rfl, rfl⟩
set_option maxRecDepth 100000 in
set_option maxHeartbeats 1000000 in
theorem planParties (T : Nat → Prop) (p : Option Addr) (n cap : Nat) (l : List Int) (w : World) (hrow : IsRow T w (.slice p n cap) (l.map (.int .i64))) (hn : l.length = n) (hmax : n ≤ 1000000) :
    Calls Tryz.prog 94 #[.slice p n cap] w fun e w' => e = .returned (.bool (decide (partiesN l))) ∧ Mod nil w w' := by
  refine (?_ : ∀ Post : Ending → World → Prop, Hid (∀ e w', (e = .returned (.bool (decide (partiesN l))) ∧ Mod nil w w') → Post e w') → Calls Tryz.prog 94 #[.slice p n cap] w Post) _ (Lib.hid (fun _ _ h => h))
  intro Post HPOST
  have HROW := Lib.hid hrow
  have HN := Lib.hid hn
  clear hrow hn
  by_cases hlen : 2 ≤ n ∧ n ≤ 16
  · obtain ⟨a, ha⟩ : ∃ a, (asc l).getD 0 0 = a := ⟨_, rfl⟩
    obtain ⟨z, hz⟩ : ∃ z, (asc l).getD (n - 1) 0 = z := ⟨_, rfl⟩
    obtain ⟨m, hm⟩ : ∃ m, (Lib.compact (asc l)).length = m := ⟨_, rfl⟩
    have hiff : partiesN l ↔ 0 ≤ a ∧ z < 16 ∧ m = n := by
      have := partiesN_iff l (by rw [HN.out]; exact hlen.1) (by rw [HN.out]; exact hlen.2)
      rw [HN.out, ha, hz, hm] at this
      exact this
    have HEND : Hid (∀ b w', (b = true ↔ 0 ≤ a ∧ z < 16 ∧ m = n) → Mod nil w w' → Post (.returned (.bool b)) w') := Lib.hid (fun b w' hb hm => HPOST.out _ _ ⟨by
      have : b = decide (partiesN l) := by rw [Bool.eq_iff_iff, hb, decide_eq_true_iff, hiff]
      rw [this], hm⟩)
    have HA := Lib.hid ha
    have HZ := Lib.hid hz
    have HM := Lib.hid hm
    obtain ⟨hl1, hl2⟩ := hlen
    clear ha hz hm hiff
    go_enter Tryz.func94, Tryz.ntmps94
    go_wp2_with fail
    refine (values_call p n cap w).mono ?_
    rintro e w1 ⟨rfl, hw1⟩
    have hm1 : Mod nil w w1 := by rw [hw1]; exact (Mod.refl _ _).alloc _
    have hB : w1.cell? ⟨w.heap.size, 0, none⟩ = some (.slice p l.length cap) := by rw [hw1, HN.out]; exact cell_of (heap_alloc_new _ _) 0
    have hsI := sortedI w.heap.size T p cap l w1 hB (by rw [HN.out]; exact HROW.out.modNil hm1) (by rw [HN.out]; exact hmax)
    have HSI := Lib.hid hsI
    have HM1 := Lib.hid hm1
    clear hw1 hm1 hB hsI
    go_wp2_with fail
    refine HSI.out.mono ?_
    rintro e w2 ⟨v, rfl, hv, hm2⟩
    obtain ⟨hvr, hvo⟩ := id hv
    obtain ⟨g, c, rfl, hg, hgl, hc, hfz⟩ : ∃ g c, v = .slice (some ⟨g, 0, none⟩) n c ∧ w1.heap.size ≤ g ∧ g < w2.heap.size ∧ n ≤ c ∧ True := by
      rcases hvo with rfl | ⟨g, c, rfl, h1, h2, h3, -⟩
      · obtain ⟨p', c', he, -⟩ := hvr
        simp only [Value.slice.injEq, List.length_map, asc_length, HN.out] at he
        omega
      · rw [asc_length, HN.out] at h3 ⊢
        exact ⟨g, c, rfl, h1, h2, h3, trivial⟩
    have hcell : ∀ i, i < n → w2.cell? ⟨g, i, none⟩ = some (.int .i64 ((asc l).getD i 0)) := fun i hi => by
      obtain ⟨p', c', he, hcc⟩ := hvr
      obtain ⟨b, off, h1, -, -, h4⟩ := hcc i (by rw [List.length_map, asc_length, HN.out]; exact hi)
      simp only [Value.slice.injEq] at he
      obtain ⟨rfl, -, -⟩ := he
      simp only [Option.some.injEq, Addr.mk.injEq, and_true] at h1
      obtain ⟨rfl, rfl⟩ := h1
      rw [Nat.zero_add] at h4
      rw [h4]
      simp [asc_length, HN.out, hi]
    have c0 := hcell 0 (by omega)
    have cz := hcell (n - 1) (by omega)
    rw [HA.out] at c0
    rw [HZ.out] at cz
    have HV := Lib.hid hv
    have HM2 := Lib.hid (HM1.out.thenNil hm2)
    obtain ⟨k, rfl⟩ : ∃ k, n = k + 1 := ⟨n - 1, by omega⟩
    rw [Nat.add_sub_cancel] at cz
    have hnk : ((k + 1 : Nat) : Int) - 1 = (k : Int) := by omega
    have hnw : IntKind.i64.wrap (((k + 1 : Nat) : Int) - 1) = (k : Int) := by rw [IntKind.wrap_i64]; omega
    clear hvr hvo hcell hv hm2
    by_cases ha0 : 0 ≤ a
    · by_cases hz16 : z < 16
      · have HCM := Lib.hid (ownCompact _ _ _ w2 HV.out (by rw [asc_length, HN.out]; omega))
        go_wp2_with fail
        refine HCM.out.mono ?_
        rintro e w3 ⟨v3, rfl, hv3, hm3⟩
        obtain ⟨p3, c3, rfl, -⟩ := hv3
        rw [List.length_map, HM.out]
        have hm3' : Mod nil w w3 := HM2.out.new hm3 (fun j h => by have := HM1.out.size; omega)
        have HE := Lib.hid (HEND.out ((m : Int) == ((k + 1 : Nat) : Int)) w3 (by simp; omega) hm3')
        clear hm3 hm3'
        go_wp2_with fail
        exact HE.out
      · have HE := Lib.hid (HEND.out false w2 (by simp; omega) HM2.out)
        go_wp2_with fail
        exact HE.out
    · have HE := Lib.hid (HEND.out false w2 (by simp; omega) HM2.out)
      go_wp2_with fail
      exact HE.out
  · have HE : Hid (Post (.returned (.bool false)) w) := Lib.hid (HPOST.out _ _ ⟨by rw [decide_eq_false]; intro h; apply hlen; have := h.1; have := h.2.1; have := HN.out; omega, Mod.refl _ _⟩)
    rcases (show n < 2 ∨ (2 ≤ n ∧ 16 < n) by omega) with h | ⟨h, h'⟩
    all_goals
      clear hlen
      go_enter Tryz.func94, Tryz.ntmps94
      go_wp2_with fail
      exact HE.out
end Go.Proofs.YtdfpmlfdmhlhcaaGreat

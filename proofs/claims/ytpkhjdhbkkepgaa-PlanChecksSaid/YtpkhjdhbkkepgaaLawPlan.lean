/- cfllaw21: first, Few. -/
import Derived.Test.YtpkhjdhbkkepgaaPlanH
import Derived.Test.YtpkhjdhbkkepgaaPlanR
import Derived.Test.YtpkhjdhbkkepgaaSame
import Derived.Test.YtpkhjdhbkkepgaaRefLists
namespace Go.Proofs.Ytpkhjdhbkkepgaa
open Go.RowKit
theorem planFirst (w : World) : Calls Try.prog 8 #[] w fun e w' => e = .returned (.bool true) ∧ w = w' := by
  have H1 := Lib.hid (planGap 0 1 w)
  have H2 := Lib.hid (planGap (-1) 1 w)
  rw [show gapN 0 1 = 4 from rfl] at H1
  rw [show gapN (-1) 1 = 0 from rfl] at H2
  go_enter Try.func8, Try.ntmps8
  go_wp2_with fail
  refine H1.out.mono ?_
  rintro e w' ⟨rfl, rfl⟩
  go_wp2_with fail
  refine H2.out.mono ?_
  rintro e w' ⟨rfl, rfl⟩
  go_wp2_with fail
  go_ret
  exact ⟨rfl, rfl⟩
theorem makeN_cases {deal : Int} {ps : List Int} {ls : List (List It)} {h : List UInt8} {start eps wait : Int} {P : Pl} {er : Int} (hm : makeN deal ps ls h start eps wait = (P, er)) :
    (er = 0 ∧ ∃ dl, mayN deal ps ls start eps wait ∧ ladderN ps.length start eps wait = some dl ∧ h.length = 32 ∧ P = ⟨deal, ps, ls, h, start, eps, wait, dl⟩) ∨ (er ≠ 0 ∧ P = Pl.zero) := by
  unfold makeN at hm
  split at hm
  · rename_i h1
    split at hm
    · obtain ⟨rfl, rfl⟩ := Prod.mk.inj hm; exact .inr ⟨by decide, rfl⟩
    · rename_i l hl
      split at hm
      · rename_i h3; obtain ⟨rfl, rfl⟩ := Prod.mk.inj hm; exact .inl ⟨rfl, l, h1, hl, h3, rfl⟩
      · obtain ⟨rfl, rfl⟩ := Prod.mk.inj hm; exact .inr ⟨by decide, rfl⟩
  · obtain ⟨rfl, rfl⟩ := Prod.mk.inj hm; exact .inr ⟨by decide, rfl⟩
theorem ladderN_some {n : Nat} {start eps wait : Int} {dl : List Int} (h : ladderN n start eps wait = some dl) : dl.length = n ∧ ladTop n start eps wait + ((n - 1 : Nat) : Int) * gapN eps wait ≤ 1099511627776 ∧ ∀ i, i < n → dl.getD i 0 = ladAt n (ladTop n start eps wait) (gapN eps wait) i := by
  unfold ladderN at h
  split at h
  · rename_i h1
    obtain rfl := Option.some.inj h
    exact ⟨by simp, h1, fun i hi => by simp [hi]⟩
  · cases h
def fewN (ps : List Int) (ls : List (List It)) : Prop := (∀ l ∈ ls.take 100, l.length ≤ 100) ∧ ps.length ≤ 100 ∧ ls.length ≤ 100
instance (ps : List Int) (ls : List (List It)) : Decidable (fewN ps ls) := inferInstanceAs (Decidable (_ ∧ _))
set_option maxRecDepth 100000 in
set_option maxHeartbeats 1000000 in
theorem planFew (T : Nat → Prop) (pp pl : Option Addr) (np cp nl cl : Nat) (ps : List Int) (ls : List (List It)) (w : World) (hp : ps.length = np) (hl : IsLegs T w (.slice pl nl cl) ls) (hnp : np ≤ maxLen) (hnl : nl ≤ maxLen) :
    Calls Try.prog 9 #[.agg #[.slice pp np cp, .slice pl nl cl]] w fun e w' => e = .returned (.bool (decide (fewN ps ls))) ∧ Mod nil w w' := by
  refine (?_ : ∀ Post : Ending → World → Prop, Hid (∀ e w', (e = .returned (.bool (decide (fewN ps ls))) ∧ Mod nil w w') → Post e w') → Calls Try.prog 9 #[.agg #[.slice pp np cp, .slice pl nl cl]] w Post) _ (Lib.hid (fun _ _ h => h))
  intro Post HPOST
  have hll : ls.length = nl := by obtain ⟨_, _, h⟩ := hl.form; simp only [Value.slice.injEq] at h; exact h.2.1.symm
  have HL := Lib.hid hl
  have HLL := Lib.hid hll
  have HNP := Lib.hid hp
  unfold maxLen at hnp hnl
  obtain ⟨r, hr⟩ : ∃ r, w.heap.size = r := ⟨_, rfl⟩
  clear hl hll hp
  go_enter Try.func9, Try.ntmps9
  go_upto_region 1 with (fail)
  (try rw [hr])
  generalize hw1 : World.alloc w _ = w1
  have hm1 : Mod nil w w1 := by rw [← hw1]; exact (Mod.refl _ _).alloc _
  have hb1 : w1.heap[r]? = some (.cells #[.slice pp np cp, .slice pl nl cl] 25 (0, 0)) := by rw [← hw1, ← hr]; exact heap_alloc_new _ _
  have a0 := cell_of hb1 0
  have a1 := cell_of hb1 1
  simp only [List.getElem?_toArray, List.getElem?_cons_zero, List.getElem?_cons_succ] at a0 a1
  have HM1 := Lib.hid hm1
  clear hw1 hm1 hb1 hr
  go_wp2_with fail
  go_loopw [3] (fun v wr => ∃ i : Nat, i ≤ nl ∧ i ≤ 100 ∧ v = .int .i64 i ∧ Hid (∀ l ∈ ls.take i, l.length ≤ 100) ∧ wr = w1) (fun v _ => nl - (intOf v).toNat)
  case atStart => exact ⟨0, by omega, by omega, rfl, Lib.hid (by simp), rfl⟩
  case round =>
    obtain ⟨i, hi, hi2, rfl, HS, rfl⟩ := hrel
    by_cases hlt : i < nl ∧ i < 100
    · obtain ⟨hlt, hlt2⟩ := hlt
      have hil : i < ls.length := by rw [HLL.out]; exact hlt
      obtain ⟨b, off, x, rfl, -, hbw, hx, hits⟩ := (HL.out.modNil HM1.out).at i hil
      obtain ⟨l, hll⟩ : ∃ l, ls[i] = l := ⟨_, rfl⟩
      rw [hll] at hits
      obtain ⟨px, cx, rfl⟩ := hits.form
      have HT : Hid (ls.take (i + 1) = ls.take i ++ [l]) := Lib.hid (by rw [List.take_succ_eq_append_getElem hil, hll])
      obtain ⟨n, hn⟩ : ∃ n, l.length = n := ⟨_, rfl⟩
      rw [hn] at hx
      have HN := Lib.hid hn
      have HLM : Hid (l ∈ ls.take 100) := Lib.hid (by
        have h1 : l ∈ ls.take (i + 1) := by rw [HT.out]; simp
        have h2 : ls.take (i + 1) = (ls.take 100).take (i + 1) := by rw [List.take_take, Nat.min_eq_left (by omega)]
        rw [h2] at h1
        exact List.mem_of_mem_take h1)
      clear hits hll hn
      by_cases hbig : 100 < n
      · have HE : Hid (Post (.returned (.bool false)) wr) := Lib.hid (HPOST.out _ _ ⟨by rw [decide_eq_false]; intro h; have := h.1 l HLM.out; have := HN.out; omega, HM1.out⟩)
        go_wp2_with fail
        exact HE.out
      · have HSN : Hid (∀ l ∈ ls.take (i + 1), l.length ≤ 100) := Lib.hid (by
          rw [HT.out]
          intro y hy
          rcases List.mem_append.1 hy with h | h
          · exact HS.out y h
          · rw [List.mem_singleton.1 h, HN.out]; omega)
        go_wp2_with fail
        exact ⟨⟨i + 1, by omega, by omega, by go_num, HSN, trivial⟩, by simp [intOf]; omega⟩
    · have HALL : Hid (∀ l ∈ ls.take 100, l.length ≤ 100) := Lib.hid (by
        have : ls.take 100 = ls.take i := by
          rcases (show i = 100 ∨ (i < 100 ∧ nl ≤ i) by omega) with h | ⟨h1, h2⟩
          · rw [h]
          · rw [List.take_of_length_le (by rw [HLL.out]; omega), List.take_of_length_le (by rw [HLL.out]; omega)]
        rw [this]
        exact HS.out)
      have HEND : Hid (∀ b : Bool, (b = true ↔ np ≤ 100 ∧ nl ≤ 100) → Post (.returned (.bool b)) wr) := Lib.hid (fun b hb => HPOST.out _ _ ⟨by
        have : b = decide (fewN ps ls) := by
          rw [Bool.eq_iff_iff, hb, decide_eq_true_iff]
          unfold fewN
          rw [HNP.out, HLL.out]
          exact ⟨fun h => ⟨HALL.out, h⟩, fun h => h.2⟩
        rw [this], HM1.out⟩)
      clear HS HALL
      rcases (show (¬ i < nl) ∨ (i < nl ∧ i = 100) by omega) with h1 | ⟨h1, rfl⟩
      all_goals
        by_cases h2 : np ≤ 100
        · have HE := Lib.hid (HEND.out (decide ((nl : Int) ≤ 100)) (by simp; omega))
          (try simp only [Int.cast_ofNat_Int])
          go_wp2_with fail
          exact HE.out
        · have HE := Lib.hid (HEND.out false (by simp; omega))
          (try simp only [Int.cast_ofNat_Int])
          go_wp2_with fail
          exact HE.out
end Go.Proofs.Ytpkhjdhbkkepgaa

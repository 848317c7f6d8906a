/- Package num. -/
import Derived.Test.YtdfpmlfdmhlhcaaGreatChecked
import Derived.Test.YtdfpmlfdmhlhcaaGreatSame
namespace Go.Proofs.YtdfpmlfdmhlhcaaGreat
open Go.RowKit
theorem numAmount (n : Int) (w : World) : Calls Tryz.prog 79 #[.int .i64 n] w fun e w' => e = .returned (.bool (decide (0 ≤ n ∧ n ≤ 4611686018427387904))) ∧ w = w' := by
  rcases (show n < 0 ∨ (0 ≤ n ∧ n ≤ 4611686018427387904) ∨ (0 ≤ n ∧ ¬ n ≤ 4611686018427387904) by omega) with h | ⟨h, h'⟩ | ⟨h, h'⟩
  all_goals
    go_enter Tryz.func79, Tryz.ntmps79
    go_wp2_with fail
    go_ret
    exact ⟨by simp; try omega, rfl⟩
def tickN (n : Int) : Prop := 0 ≤ n ∧ n ≤ 1099511627776
instance (n : Int) : Decidable (tickN n) := inferInstanceAs (Decidable (_ ∧ _))
theorem numTick (n : Int) (w : World) : Calls Tryz.prog 98 #[.int .i64 n] w fun e w' => e = .returned (.bool (decide (tickN n))) ∧ w = w' := by
  obtain ⟨b, hb⟩ : ∃ b, decide (tickN n) = b := ⟨_, rfl⟩
  rw [hb]
  rcases (show n < 0 ∨ (0 ≤ n ∧ n ≤ 1099511627776) ∨ (0 ≤ n ∧ ¬ n ≤ 1099511627776) by omega) with h | ⟨h, h'⟩ | ⟨h, h'⟩
  · obtain rfl : b = false := by rw [← hb]; exact decide_eq_false (by unfold tickN; omega)
    clear hb
    go_enter Tryz.func98, Tryz.ntmps98
    go_wp2_with fail
    go_ret
    exact ⟨rfl, rfl⟩
  · obtain rfl : b = true := by rw [← hb]; exact decide_eq_true (by unfold tickN; omega)
    clear hb
    go_enter Tryz.func98, Tryz.ntmps98
    go_wp2_with fail
    go_ret
    exact ⟨rfl, rfl⟩
  · obtain rfl : b = false := by rw [← hb]; exact decide_eq_false (by unfold tickN; omega)
    clear hb
    go_enter Tryz.func98, Tryz.ntmps98
    go_wp2_with fail
    go_ret
    exact ⟨rfl, rfl⟩
theorem numRight (n : Int) (b : Bool) (w : World) : Calls Tryz.prog 129 #[.int .i64 n, .bool b] w fun e w' => e = .returned (.tuple #[.int .i64 (if b then n else 0), .int .i64 (if b then 0 else 1)]) ∧ w = w' := by
  cases b
  all_goals
    go_enter Tryz.func129, Tryz.ntmps129
    go_wp2_with fail
    go_ret2
    exact ⟨rfl, rfl⟩
def afterN (t d : Int) : Int × Int := if tickN t ∧ tickN d ∧ tickN (t + d) then (t + d, 0) else (0, 1)
theorem numAfter (t d : Int) (w : World) : Calls Tryz.prog 143 #[.int .i64 t, .int .i64 d] w fun e w' => e = .returned (.tuple #[.int .i64 (afterN t d).1, .int .i64 (afterN t d).2]) ∧ w = w' := by
  have HT := Lib.hid numTick
  have HR := Lib.hid numRight
  by_cases h1 : tickN t
  · by_cases h2 : tickN d
    · have hw : IntKind.i64.wrap (t + d) = t + d := by unfold tickN at h1 h2; rw [IntKind.wrap_i64]; omega
      by_cases h3 : tickN (t + d)
      · have ha : afterN t d = (t + d, 0) := if_pos ⟨h1, h2, h3⟩
        have d1 := decide_eq_true h1
        have d2 := decide_eq_true h2
        have d3 := decide_eq_true h3
        rw [ha]
        have HW := Lib.hid hw
        clear h1 h2 h3 ha
        go_enter Tryz.func143, Tryz.ntmps143
        go_wp2_with fail
        refine (HT.out t w).mono ?_
        rintro e w' ⟨rfl, rfl⟩
        go_wp2_with fail
        refine (HT.out d w).mono ?_
        rintro e w' ⟨rfl, rfl⟩
        go_wp2_with fail
        refine (HT.out (t + d) w).mono ?_
        rintro e w' ⟨rfl, rfl⟩
        go_wp2_with fail
        refine (HR.out _ true w).mono ?_
        rintro e w' ⟨rfl, rfl⟩
        go_wp2_with fail
        go_ret2
        exact ⟨rfl, rfl⟩
      · have ha : afterN t d = (0, 1) := if_neg (fun h => h3 h.2.2)
        have d1 := decide_eq_true h1
        have d2 := decide_eq_true h2
        have d3 := decide_eq_false h3
        rw [ha]
        clear h1 h2 h3 ha
        go_enter Tryz.func143, Tryz.ntmps143
        go_wp2_with fail
        refine (HT.out t w).mono ?_
        rintro e w' ⟨rfl, rfl⟩
        go_wp2_with fail
        refine (HT.out d w).mono ?_
        rintro e w' ⟨rfl, rfl⟩
        go_wp2_with fail
        refine (HT.out (t + d) w).mono ?_
        rintro e w' ⟨rfl, rfl⟩
        go_wp2_with fail
        refine (HR.out _ false w).mono ?_
        rintro e w' ⟨rfl, rfl⟩
        go_wp2_with fail
        go_ret2
        exact ⟨rfl, rfl⟩
    · have ha : afterN t d = (0, 1) := if_neg (fun h => h2 h.2.1)
      have d1 := decide_eq_true h1
      have d2 := decide_eq_false h2
      rw [ha]
      obtain ⟨x, hx⟩ : ∃ x, IntKind.i64.wrap (t + d) = x := ⟨_, rfl⟩
      clear h1 h2 ha
      go_enter Tryz.func143, Tryz.ntmps143
      go_wp2_with fail
      refine (HT.out t w).mono ?_
      rintro e w' ⟨rfl, rfl⟩
      go_wp2_with fail
      refine (HT.out d w).mono ?_
      rintro e w' ⟨rfl, rfl⟩
      go_wp2_with fail
      refine (HR.out _ false w).mono ?_
      rintro e w' ⟨rfl, rfl⟩
      go_wp2_with fail
      go_ret2
      exact ⟨rfl, rfl⟩
  · have ha : afterN t d = (0, 1) := if_neg (fun h => h1 h.1)
    have d1 := decide_eq_false h1
    rw [ha]
    obtain ⟨x, hx⟩ : ∃ x, IntKind.i64.wrap (t + d) = x := ⟨_, rfl⟩
    clear h1 ha
    go_enter Tryz.func143, Tryz.ntmps143
    go_wp2_with fail
    refine (HT.out t w).mono ?_
    rintro e w' ⟨rfl, rfl⟩
    go_wp2_with fail
    refine (HR.out _ false w).mono ?_
    rintro e w' ⟨rfl, rfl⟩
    go_wp2_with fail
    go_ret2
    exact ⟨rfl, rfl⟩
end Go.Proofs.YtdfpmlfdmhlhcaaGreat

/- Package frame: lifts. -/
import Derived.Test.YtjilbnpehgigjaaGreatFrameC
namespace Go.Proofs.YtjilbnpehgigjaaGreat
open Go.RowKit
def markF (i : Nat) : UInt8 := if i = 0 then 1 else 2
/-- are the marks of the first so many sectors right? -/
def marksOk (b : List UInt8) (n : Nat) : Bool := (List.range n).all fun i => b.getD (64 * i) 0 == markF i
theorem marksOk_succ (b : List UInt8) (i : Nat) : marksOk b (i + 1) = (marksOk b i && (b.getD (64 * i) 0 == markF i)) := by simp [marksOk, List.range_succ]
theorem marksOk_mono (b : List UInt8) (i n : Nat) (h : i ≤ n) (hn : marksOk b n = true) : marksOk b i = true := by
  unfold marksOk at hn ⊢
  rw [List.all_eq_true] at hn ⊢
  intro x hx
  exact hn x (List.mem_range.2 (Nat.lt_of_lt_of_le (List.mem_range.1 hx) h))
def tailsTo (b : List UInt8) : Nat → List UInt8
  | 0 => []
  | i + 1 => tailsTo b i ++ (b.drop (64 * i + 1)).take 63
theorem tailsTo_length (b : List UInt8) (n : Nat) (h : 64 * n ≤ b.length) : (tailsTo b n).length = 63 * n := by
  induction n with
  | zero => rfl
  | succ n ih => rw [tailsTo, List.length_append, ih (by omega), List.length_take, List.length_drop]; omega
def liftOk (b : List UInt8) (n : Nat) : Bool := decide (64 * n ≤ b.length) && marksOk b n
def Lifted (w w' : World) (b : List UInt8) (n : Nat) (e : Ending) : Prop :=
  (liftOk b n = true ∧ ∃ v, e = .returned (.tuple #[v, .bool true]) ∧ IsVec (fun k => w.heap.size ≤ k) w' 5 1 v (63 * n) (bys (tailsTo b n)) ∧ Mod nil w w') ∨
  (liftOk b n = false ∧ e = .returned (.tuple #[.slice none 0 0, .bool false]) ∧ Mod nil w w')
set_option maxRecDepth 100000 in
set_option maxHeartbeats 2000000 in
theorem frameLifts (T : Nat → Prop) (p : Option Addr) (len cap n : Nat) (b : List UInt8) (w : World) (hrow : IsRow T w (.slice p len cap) (bys b)) (hcap : len ≤ cap) (hn : n ≤ 1000) (hc63 : cap ≤ maxLen) :
    Calls Tryz.prog 74 #[.slice p len cap, .int .i64 n] w fun e w' => Lifted w w' b n e := by
  refine (?_ : ∀ Post : Ending → World → Prop, Hid (∀ e w', (Lifted w w' b n e) → Post e w') → Calls Tryz.prog 74 #[.slice p len cap, .int .i64 n] w Post) _ (Lib.hid (fun _ _ h => h))
  intro Post HPOST
  unfold maxLen at hc63
  have hbl : b.length = len := by
    obtain ⟨_, _, h, _⟩ := hrow
    simp only [Value.slice.injEq, bys_length] at h
    exact h.2.1.symm
  have HBL := Lib.hid hbl
  have HROW := Lib.hid hrow
  clear hrow hbl
  by_cases hlen : len < 64 * n
  · have hbad : liftOk b n = false := by unfold liftOk; rw [decide_eq_false (by rw [HBL.out]; omega)]; rfl
    have HEND : Hid (Post (.returned (.tuple #[.slice none 0 0, .bool false])) w) := Lib.hid (HPOST.out _ _ (.inr ⟨hbad, rfl, Mod.refl _ _⟩))
    have h1 : (len : Int) < (n : Int) * 64 := by omega
    clear hbad
    go_enter Tryz.func74, Tryz.ntmps74
    go_wp2_with fail
    exact HEND.out
  · have h1 : ¬ (len : Int) < (n : Int) * 64 := by omega
    have h1' : decide ((len : Int) < (n : Int) * 64) = false := by simp; omega
    obtain ⟨B, hB⟩ : ∃ B, w.heap.size = B := ⟨_, rfl⟩
    have HB := Lib.hid hB
    clear hB
    go_enter Tryz.func74, Tryz.ntmps74
    go_wp2_with fail
    go_loopw [6, 15] (fun v6 v15 wr => ∃ (i k : Nat) (q : Option Addr) (d : Nat), i ≤ n ∧ v15 = .int .i64 i ∧ v6 = .slice q k d ∧ k ≤ 64000 ∧ Hid (k = 63 * i) ∧ Hid (marksOk b i = true) ∧ Hid (IsVec (fun k => B ≤ k) wr 5 1 (.slice q k d) k (bys (tailsTo b i))) ∧ Hid (Mod nil w wr)) (fun _ v _ => n - (intOf v).toNat)
    case atStart => exact ⟨0, 0, none, 0, by omega, rfl, rfl, by omega, Lib.hid rfl, Lib.hid rfl, Lib.hid (IsVec.nil _ _ _ _), Lib.hid (Mod.refl _ _)⟩
    case round =>
      obtain ⟨i, k, q, d, hi, rfl, rfl, hk, HK, HMK, HVR, HMR⟩ := hrel
      by_cases hlt : i < n
      · obtain ⟨g, o, rfl, -, -⟩ := row_some HROW.out (by omega)
        obtain ⟨X, hX⟩ : ∃ X, 64 * i = X := ⟨_, rfl⟩
        have hXl : X + 64 ≤ len ∧ X + 64 ≤ cap := by omega
        have hm1 : IntKind.i64.wrap ((i : Int) * 64) = (X : Int) := by rw [IntKind.wrap_i64]; omega
        have hm1' : (i : Int) * 64 = (X : Int) := by omega
        have hm2' : ((i : Int) + 1) * 64 = (X : Int) + 64 := by omega
        have hx1 : ¬ cap = X := by omega
        have hx2 : ¬ cap - X = 1 := by omega
        have hrow2 : IsRow T w (.slice (some ⟨g, o + X + 1, none⟩) 63 (cap - X - 1)) (bys ((b.drop (X + 1)).take 63)) := by
          have h1 := row_drop HROW.out X (by rw [bys_length, HBL.out]; omega)
          have h2 := rowFront h1 64 (by rw [List.length_drop, bys_length, HBL.out]; omega)
          have h3 := row_drop h2 1 (by rw [List.length_take, List.length_drop, bys_length, HBL.out]; omega)
          have e : bys ((b.drop (X + 1)).take 63) = (((bys b).drop X).take 64).drop 1 := by
            rw [List.drop_take, List.drop_drop]
            simp [bys, List.map_take, List.map_drop]
          rw [e]
          exact h3
        have hcl : ((b.drop (X + 1)).take 63).length = 63 := by rw [List.length_take, List.length_drop, HBL.out]; omega
        have hc0 : wr.cell? ⟨g, o + X, none⟩ = some (.int .u8 (b.getD X 0).toNat) := by
          obtain ⟨p', c', hp, hcc⟩ := HROW.out
          obtain ⟨b', o', q1, q2, q3, q4⟩ := hcc X (by rw [bys_length, HBL.out]; omega)
          simp only [Value.slice.injEq] at hp
          obtain ⟨rfl, -, -⟩ := hp
          simp only [Option.some.injEq, Addr.mk.injEq, and_true] at q1
          obtain ⟨rfl, rfl⟩ := q1
          rw [bys_getD _ _ (by rw [HBL.out]; omega)] at q4
          exact cell_kept q4 HMR.out q3 (not_nil _)
        have htl : (tailsTo b i).length = k := by rw [tailsTo_length b i (by rw [HBL.out]; omega), HK.out]
        obtain ⟨v7, w7, hrun, hv7, hm7⟩ := bytes_append (l := tailsTo b i) (m := (b.drop (X + 1)).take 63) 22 (by rw [htl]; exact HVR.out) (hrow2.modNil HMR.out) (by rw [htl, hcl]; omega)
        have hl7 : (tailsTo b i ++ (b.drop (X + 1)).take 63).length = k + 63 := by rw [List.length_append, htl, hcl]
        rw [hl7] at hv7
        obtain ⟨p7, c7, rfl⟩ := hv7.form
        have HRUN := Lib.hid hrun
        have HV7 : Hid (IsVec (fun k => B ≤ k) w7 5 1 (.slice p7 (k + 63) c7) (k + 63) (bys (tailsTo b (i + 1)))) := Lib.hid (by
          rw [tailsTo, hX]
          exact hv7.mono (fun j _ h => h.elim id (fun h => by have := HMR.out.size; have := HB.out; omega)))
        have HM7 : Hid (Mod nil w w7) := Lib.hid (HMR.out.new hm7 (fun j h => by have := HB.out; omega))
        have hmk := marksOk_succ b i
        rw [hX, HMK.out, Bool.true_and] at hmk
        obtain ⟨x, hx⟩ : ∃ x, b.getD X 0 = x := ⟨_, rfl⟩
        rw [hx] at hc0 hmk
        have HMKS := Lib.hid hmk
        clear hrow2 hcl htl hrun hv7 hm7 hl7 hmk hX hx
        by_cases hz : i = 0
        · by_cases hok : x = 1
          · have hc1 : wr.cell? ⟨g, o + X, none⟩ = some (.int .u8 1) := by rw [hc0, hok]; rfl
            have z1 : ((i : Int) == 0) = true := by simp; omega
            have z2 : decide (0 < (i : Int)) = false := by simp; omega
            have z3 : ¬ 0 < i := by omega
            have z4 : ((i : Int) = 0) := by omega
            have HMI : Hid (marksOk b (i + 1) = true) := Lib.hid (by rw [HMKS.out, hok]; simp [markF, hz])
            clear hc0 z4 hz hok
            go_wp2_with (first | (at_builtin; refine wpList_append_run rfl _ _ _ _ rfl rfl rfl HRUN.out ?_))
            exact ⟨⟨i + 1, k + 63, p7, c7, by omega, by go_num, rfl, by have := HK.out; omega, Lib.hid (by have := HK.out; omega), HMI, HV7, HM7⟩, by simp [intOf]; omega⟩
          · obtain ⟨y, hy⟩ : ∃ y, x.toNat = y := ⟨_, rfl⟩
            rw [hy] at hc0
            have hyn : y ≠ 1 := fun e => hok (by rw [← UInt8.toNat_inj, hy, e]; rfl)
            have hy1 : ((y : Int) == 1) = false := by simp; omega
            have hy2 : ((y : Int) != 1) = true := by simp; omega
            have hy3 : ¬ (y : Int) = 1 := by omega
            have hbad : liftOk b n = false := by
              unfold liftOk
              cases hmm : marksOk b n with
              | false => simp
              | true =>
                have h := marksOk_mono b (i + 1) n (by omega) hmm
                rw [HMKS.out] at h
                exact absurd (by simpa [markF, hz] using h) hok
            have HEND : Hid (Post (.returned (.tuple #[.slice none 0 0, .bool false])) wr) := Lib.hid (HPOST.out _ _ (.inr ⟨hbad, rfl, HMR.out⟩))
            have z1 : ((i : Int) == 0) = true := by simp; omega
            have z2 : decide (0 < (i : Int)) = false := by simp; omega
            have z3 : ¬ 0 < i := by omega
            have z4 : ((i : Int) = 0) := by omega
            clear hbad hy hyn z4 hz hok
            go_wp2_with fail
            exact HEND.out
        · by_cases hok : x = 2
          · have hc1 : wr.cell? ⟨g, o + X, none⟩ = some (.int .u8 2) := by rw [hc0, hok]; rfl
            have z1 : ((i : Int) == 0) = false := by simp; omega
            have z2 : decide (0 < (i : Int)) = true := by simp; omega
            have z3 : 0 < i := by omega
            have z4 : ¬ ((i : Int) = 0) := by omega
            have HMI : Hid (marksOk b (i + 1) = true) := Lib.hid (by rw [HMKS.out, hok]; simp [markF, hz])
            clear hc0 hz hok
            go_wp2_with (first | (at_builtin; refine wpList_append_run rfl _ _ _ _ rfl rfl rfl HRUN.out ?_))
            exact ⟨⟨i + 1, k + 63, p7, c7, by omega, by go_num, rfl, by have := HK.out; omega, Lib.hid (by have := HK.out; omega), HMI, HV7, HM7⟩, by simp [intOf]; omega⟩
          · obtain ⟨y, hy⟩ : ∃ y, x.toNat = y := ⟨_, rfl⟩
            rw [hy] at hc0
            have hyn : y ≠ 2 := fun e => hok (by rw [← UInt8.toNat_inj, hy, e]; rfl)
            have hy1 : ((y : Int) == 2) = false := by simp; omega
            have hy2 : ((y : Int) != 2) = true := by simp; omega
            have hy3 : ¬ (y : Int) = 2 := by omega
            have hbad : liftOk b n = false := by
              unfold liftOk
              cases hmm : marksOk b n with
              | false => simp
              | true =>
                have h := marksOk_mono b (i + 1) n (by omega) hmm
                rw [HMKS.out] at h
                exact absurd (by simpa [markF, hz] using h) hok
            have HEND : Hid (Post (.returned (.tuple #[.slice none 0 0, .bool false])) wr) := Lib.hid (HPOST.out _ _ (.inr ⟨hbad, rfl, HMR.out⟩))
            have z1 : ((i : Int) == 0) = false := by simp; omega
            have z2 : decide (0 < (i : Int)) = true := by simp; omega
            have z3 : 0 < i := by omega
            have z4 : ¬ ((i : Int) = 0) := by omega
            clear hbad hy hyn hz hok
            go_wp2_with fail
            exact HEND.out
      · obtain rfl : i = n := by omega
        have hok : liftOk b i = true := by unfold liftOk; rw [decide_eq_true (by rw [HBL.out]; omega), HMK.out]; rfl
        obtain rfl : k = 63 * i := HK.out
        have HEND : Hid (Post (.returned (.tuple #[.slice q (63 * i) d, .bool true])) wr) := Lib.hid (HPOST.out _ _ (.inl ⟨hok, _, rfl, HVR.out.mono (fun k _ h => by have := HB.out; omega), HMR.out⟩))
        clear hok HVR HMR HMK HK
        go_wp2_with fail
        exact HEND.out
end Go.Proofs.YtjilbnpehgigjaaGreat

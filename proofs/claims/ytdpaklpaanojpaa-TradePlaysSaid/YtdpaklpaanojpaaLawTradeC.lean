/- TradeMany: the walk. -/
import Derived.Test.YtdpaklpaanojpaaManyPlain
import Derived.Test.YtdpaklpaanojpaaBitsAnd
import Derived.Test.YtdpaklpaanojpaaRd
import Derived.Deep.Cut
import Derived.Deep.CutBlock
namespace Go.Proofs.Ytdpaklpaanojpaa
open Go.RowKit

theorem trades_length (l : List T7) : (trades l).length = l.length * 7 := by
  induction l with
  | nil => rfl
  | cons x l ih => simp only [trades, List.flatMap_cons, List.length_append, List.length_cons] at ih ⊢; rw [ih]; simp [T7.vals]; omega
theorem trades_get (l : List T7) : ∀ (k : Nat) (hk : k < l.length) (j : Nat), j < 7 → (trades l)[k * 7 + j]? = (l[k].vals)[j]? := by
  induction l with
  | nil => intro k hk; simp at hk
  | cons x l ih =>
    intro k hk j hj
    have hx : x.vals.length = 7 := rfl
    cases k with
    | zero => simp only [trades, List.flatMap_cons, Nat.zero_mul, Nat.zero_add, List.getElem_cons_zero]; rw [List.getElem?_append_left (by omega)]
    | succ k =>
      have h := ih k (by simpa using hk) j hj
      simp only [trades, List.flatMap_cons, List.getElem_cons_succ] at h ⊢
      rw [List.getElem?_append_right (by omega), ← h]
      congr 1
      omega
theorem trade_cells {S : Nat → Prop} {w : World} {v : Value} {l : List T7} (h : IsCells S w v l.length (trades l)) (k : Nat) (hk : k < l.length) :
    ∃ g off, (∃ c, v = .slice (some ⟨g, off, none⟩) l.length c) ∧ S g ∧ g < w.heap.size ∧ w.cell? ⟨g, off + k * 7, none⟩ = some (.int .i64 l[k].id) ∧ w.cell? ⟨g, off + k * 7 + 1, none⟩ = some (.int .i64 l[k].buyer) ∧ w.cell? ⟨g, off + k * 7 + 2, none⟩ = some (.int .i64 l[k].seller) ∧
      w.cell? ⟨g, off + k * 7 + 3, none⟩ = some (.int .i64 l[k].cash) ∧ w.cell? ⟨g, off + k * 7 + 4, none⟩ = some (.int .i64 l[k].price) ∧ w.cell? ⟨g, off + k * 7 + 5, none⟩ = some (.int .i64 l[k].asset) ∧ w.cell? ⟨g, off + k * 7 + 6, none⟩ = some (.int .i64 l[k].qty) := by
  obtain ⟨p, c, rfl, hc⟩ := h
  have hl := trades_length l
  obtain ⟨g, off, rfl, hS, hg, _⟩ := hc 0 (by omega)
  have hcell : ∀ j, j < 7 → w.cell? ⟨g, off + k * 7 + j, none⟩ = (l[k].vals)[j]? := by
    intro j hj
    obtain ⟨b, o, hp, _, _, hx⟩ := hc (k * 7 + j) (by omega)
    simp only [Option.some.injEq, Addr.mk.injEq, and_true] at hp
    obtain ⟨rfl, rfl⟩ := hp
    rw [Nat.add_assoc, hx]
    have h2 := trades_get l k hk j hj
    have hj2 : j < (l[k].vals).length := by simpa [T7.vals] using hj
    rw [List.getElem?_eq_getElem hj2] at h2 ⊢
    rw [List.getD_eq_getElem?_getD, h2]; rfl
  exact ⟨g, off, ⟨c, rfl⟩, hS, hg, hcell 0 (by omega), hcell 1 (by omega), hcell 2 (by omega), hcell 3 (by omega), hcell 4 (by omega), hcell 5 (by omega), hcell 6 (by omega)⟩
theorem At.trans {z w w' : World} {b : Nat} {p c a : Int} {l : List Said} (h : At z w b p c a l) (m : Mod nil w w') : At z w' b p c a l := h.modNil m
set_option maxRecDepth 100000 in
set_option maxHeartbeats 4000000 in
theorem walkTradeMany (v0 : Value) (W : World) (r0 : Rd W 3 v0) :
    Calls Try.prog 6 #[v0] W fun e w' => e = .returned (.bool true) ∧ Below W.heap.size W w' := by
  obtain ⟨n, rfl, -⟩ := r0.int Try.underlying3
  clear r0
  go_enter Try.func6, Try.ntmps6
  go_wp2_with fail
  refine (tradeFirst W).mono ?_
  rintro e w2 ⟨rfl, hm2⟩
  go_wp2_with fail
  refine (tradeNew 4 2 2 w2 (by unfold newOk; omega)).mono ?_
  rintro e w3 ⟨b, rfl, hd3, hb3, hm3⟩
  have HB3 : Hid (W.heap.size ≤ b) := Lib.hid (Nat.le_trans hm2.size hb3)
  have HM3 := Lib.hid (hm2.thenNil hm3)
  have HD3 := Lib.hid hd3
  clear hb3 hm3 hd3 hm2
  have hbad : ∀ (w4 : World), Mod nil w3 w4 → Calls Try.prog 7 #[] w4 fun e w' => e = .returned (.bool true) ∧ Below W.heap.size W w' := fun w4 h4 => (tradeFirst w4).mono (by rintro e w' ⟨rfl, h⟩; exact ⟨rfl, ((HM3.out.thenNil h4).thenNil h).below⟩)
  have HBAD := Lib.hid hbad
  clear hbad
  have hcase : n < 0 ∨ (0 ≤ n ∧ 100 < n) ∨ (0 ≤ n ∧ n ≤ 100) := by omega
  rcases hcase with h1 | ⟨h1, h2⟩ | ⟨h1, h2⟩
  · go_wp2_with fail
    refine (HBAD.out w3 (Mod.refl _ _)).mono ?_
    rintro e w' ⟨rfl, h⟩
    go_wp2_with fail
    go_ret
    exact ⟨rfl, h⟩
  · go_wp2_with fail
    refine (HBAD.out w3 (Mod.refl _ _)).mono ?_
    rintro e w' ⟨rfl, h⟩
    go_wp2_with fail
    go_ret
    exact ⟨rfl, h⟩
  · obtain ⟨m, rfl⟩ := Int.eq_ofNat_of_zero_le h1
    have hm100 : m ≤ 100 := by omega
    clear h1
    clear HBAD
    have HA := Lib.hid (At.start HD3.out)
    clear HD3
    go_wp2_with fail
    go_loopw [5] (fun v wr => ∃ i : Nat, i ≤ m ∧ v = .int .i64 i ∧ At w3 wr b 4 2 2 (manyL i 0)) (fun v _ => m - (intOf v).toNat)
    case atStart => exact ⟨0, by omega, rfl, HA.out⟩
    case round =>
      obtain ⟨i, hi, rfl, hat⟩ := hrel
      clear HA
      by_cases hlt : i < m
      · have e0 := and3 (i : Int)
        have e1 := and3 ((i : Int) + 1)
        have e2 := and1 (i : Int)
        have e3 := and1 ((i : Int) / 2)
        have hp := put_buy i (by omega)
        obtain ⟨x0, hx0⟩ : ∃ x, (i : Int) % 4 = x := ⟨_, rfl⟩
        obtain ⟨x1, hx1⟩ : ∃ x, ((i : Int) + 1) % 4 = x := ⟨_, rfl⟩
        obtain ⟨x2, hx2⟩ : ∃ x, (i : Int) % 2 = x := ⟨_, rfl⟩
        obtain ⟨x3, hx3⟩ : ∃ x, (i : Int) / 2 % 2 = x := ⟨_, rfl⟩
        unfold tk at hp
        rw [hx0, hx1, hx2, hx3] at hp
        rw [hx0] at e0
        rw [hx1] at e1
        rw [hx2] at e2
        rw [hx3] at e3
        clear hx0 hx1 hx2 hx3
        have HP := Lib.hid hp
        have HAT := Lib.hid hat
        clear hp hat
        go_wp2_with fail
        refine (atPut HAT.out (by rw [manyL_length]; omega) x0 ⟨i, x0, x1, x2, (i : Int) + 1, x3, 7⟩ _ _ HP.out).mono ?_
        rintro e w5 ⟨rfl, A5, -⟩
        go_wp2_with fail
        exact ⟨⟨i + 1, by omega, by go_num, A5⟩, by simp [intOf]; omega⟩
      · obtain rfl : i = m := by omega
        clear hlt hi
        have hmm := many_matched i 0 (by omega)
        have hoo := many_open i 0 (by omega)
        go_wp2_with fail
        refine (atMatched hat (by rw [manyL_length]; omega) _ hmm).mono ?_
        rintro e w5 ⟨v5, rfl, hc5, A5, -⟩
        obtain ⟨p5, c5, rfl⟩ : ∃ p c, v5 = .slice p 0 c := cells_slice hc5
        clear hc5 hat hmm
        go_wp2_with fail
        refine (atOpen A5 (by rw [manyL_length]; omega) _ hoo).mono ?_
        rintro e w6 ⟨v6, rfl, hc6, A6, -⟩
        obtain ⟨p6, c6, rfl⟩ : ∃ p c, v6 = .slice p i c := by have := row_slice hc6; simpa using this
        clear hc6 A5 hoo
        have HA6 := Lib.hid A6
        clear A6
        go_wp2_with fail
        go_loopw [6] (fun v wr => ∃ (j i1 : Nat) (x : Int), j + i1 = i ∧ v = .int .i64 x ∧ x = (i1 : Int) - 1 ∧ At w3 wr b 4 2 2 (manyL i j)) (fun v _ => (intOf v + 1).toNat)
        case atStart => exact ⟨0, i, _, by omega, rfl, by omega, HA6.out⟩
        case round =>
          obtain ⟨j, i1, x, hj, rfl, hx, hat⟩ := hrel
          clear HA6
          by_cases hlt : 0 ≤ x
          · obtain ⟨k, rfl⟩ := Int.eq_ofNat_of_zero_le hlt
            have hk : j + k + 1 = i := by omega
            clear hx hj hlt
            have e0 := and3 (k : Int)
            have e1 := and3 ((k : Int) + 1)
            have e2 := and1 (k : Int)
            have e3 := and1 ((k : Int) / 2)
            have hp := put_sell i j k (by omega) hk
            obtain ⟨x0, hx0⟩ : ∃ x, (k : Int) % 4 = x := ⟨_, rfl⟩
            obtain ⟨x1, hx1⟩ : ∃ x, ((k : Int) + 1) % 4 = x := ⟨_, rfl⟩
            obtain ⟨x2, hx2⟩ : ∃ x, (k : Int) % 2 = x := ⟨_, rfl⟩
            obtain ⟨x3, hx3⟩ : ∃ x, (k : Int) / 2 % 2 = x := ⟨_, rfl⟩
            unfold tk at hp
            rw [hx0, hx1, hx2, hx3] at hp
            rw [hx0] at e0
            rw [hx1] at e1
            rw [hx2] at e2
            rw [hx3] at e3
            clear hx0 hx1 hx2 hx3
            have HP := Lib.hid hp
            have HMM := Lib.hid (many_matched i (j + 1) (by omega))
            have HOO := Lib.hid (many_open i (j + 1) (by omega))
            clear hp
            have HAT := Lib.hid (hat.modNil ((Mod.refl nil wr).alloc (.cells #[.int .i64 k, .int .i64 x0, .int .i64 x1, .int .i64 x2, .int .i64 ((k : Int) + 1), .int .i64 x3, .int .i64 7] 31)))
            clear hat
            go_wp2_with fail
            refine (atPut HAT.out (by rw [manyL_length]; omega) x1 ⟨k, x0, x1, x2, (k : Int) + 1, x3, 7⟩ _ _ HP.out).mono ?_
            rintro e w7 ⟨rfl, A7, -⟩
            clear HAT HP
            go_wp2_with fail
            refine (atMatched A7 (by rw [manyL_length]; omega) _ HMM.out).mono ?_
            rintro e w8 ⟨v8, rfl, hc8, A8, -⟩
            obtain ⟨p8, c8, rfl⟩ : ∃ p c, v8 = .slice p (j + 1) c := by have := cells_slice hc8; simpa using this
            clear hc8 A7 HMM
            obtain ⟨q, hq⟩ : ∃ q : Nat, j + 1 = q := ⟨_, rfl⟩
            have hqb : ((q : Int) != (i : Int) - (k : Int)) = false := by rw [bne_eq_false_iff_eq]; omega
            rw [hq] at A8 ⊢
            have HQ := Lib.hid hq
            clear hq
            go_wp2_with fail
            refine (atOpen A8 (by rw [manyL_length]; have := HQ.out; omega) _ (HQ.out ▸ HOO.out)).mono ?_
            rintro e w9 ⟨v9, rfl, hc9, A9, -⟩
            obtain ⟨p9, c9, rfl⟩ : ∃ p c, v9 = .slice p k c := by
              have := row_slice hc9
              have h := HQ.out
              simpa [show i - q = k by omega] using this
            clear hc9 A8 HOO hqb
            go_wp2_with fail
            exact ⟨⟨q, k, _, by have := HQ.out; omega, by go_num, rfl, A9⟩, by simp [intOf] <;> omega⟩
          · have hj1 : i1 = 0 := by omega
            subst hj1
            have hj2 : j = i := by omega
            subst hj2
            obtain rfl : x = -1 := by omega
            clear hlt hj hx
            have HMM := Lib.hid (many_matched j j (by omega))
            go_wp2_with fail
            refine (atMatched hat (by rw [manyL_length]; omega) _ HMM.out).mono ?_
            rintro e w7 ⟨v7, rfl, hc7, A7, -⟩
            have hll : ((List.range j).map (fun r => tk (j - j + r))).length = j := by simp
            have HC7 := Lib.hid hc7
            obtain ⟨p7, c7, rfl⟩ : ∃ p c, v7 = .slice p j c := by have := cells_slice hc7; rwa [hll] at this
            clear hll hc7 hat HMM
            have HA7 := Lib.hid A7
            clear A7
            go_wp2_with fail
            go_loopw [9] (fun v wr => ∃ i : Nat, i ≤ j ∧ v = .int .i64 i ∧ wr = w7) (fun v _ => j - (intOf v).toNat)
            case atStart => exact ⟨0, by omega, rfl, rfl⟩
            case round =>
              obtain ⟨i, hi, rfl, rfl⟩ := hrel
              by_cases hlt : i < j
              · obtain ⟨g, off, ⟨c, hv⟩, _, hgl, q0, q1, q2, q3, q4, q5, q6⟩ := trade_cells HC7.out i (by simpa using hlt)
                simp only [Value.slice.injEq] at hv
                obtain ⟨rfl, -, rfl⟩ := hv
                simp only [List.getElem_map, List.getElem_range, tk, Nat.sub_self, Nat.zero_add] at q0 q4
                clear q1 q2 q3 q5 q6
                go_wp2_with fail
                exact ⟨⟨i + 1, by omega, by go_num, trivial⟩, by simp [intOf]; omega⟩
              · obtain rfl : i = j := by omega
                clear hlt hi
                go_wp2_with fail
                refine (tradeFirst _).mono ?_
                rintro e w8 ⟨rfl, hm8⟩
                go_wp2_with fail
                refine (atLen (HA7.out.modNil hm8) (i + i) (manyL_length i i)).mono ?_
                rintro e w9 ⟨rfl, rfl⟩
                have hb2 : (((i + i : Nat) : Int) == 2 * (i : Int)) = true := by rw [beq_iff_eq]; omega
                generalize i + i = ii at hb2 ⊢
                go_wp2_with fail
                go_ret
                exact ⟨rfl, (HM3.out.new (HA7.out.modNil hm8).mod (fun k hk => hk ▸ HB3.out)).below⟩
end Go.Proofs.Ytdpaklpaanojpaa

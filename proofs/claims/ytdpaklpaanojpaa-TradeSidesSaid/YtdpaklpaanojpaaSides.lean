/- TradeSides: the plain laws, and its arguments read as types. -/
import Derived.Test.YtdpaklpaanojpaaLawTrade
import Derived.Test.YtdpaklpaanojpaaBitsAnd
import Derived.Test.YtdpaklpaanojpaaRd
import Derived.Deep.Cut
import Derived.Deep.CutBlock
namespace Go.Proofs.Ytdpaklpaanojpaa
open Go.RowKit

theorem may_zero {t : T7} {p c a : Int} (h : mayT t p c a = 0) : (0 ≤ t.id ∧ t.id < 65536) ∧ (0 ≤ t.buyer ∧ t.buyer < p) ∧ (0 ≤ t.seller ∧ t.seller < p) ∧ (0 ≤ t.cash ∧ t.cash < c) ∧ (0 ≤ t.asset ∧ t.asset < a) ∧ (1 ≤ t.price ∧ t.price ≤ 4611686018427387904) ∧ (1 ≤ t.qty ∧ t.qty ≤ 4611686018427387904) ∧ t.buyer ≠ t.seller := by
  unfold mayT at h
  split at h
  · rename_i h1
    split at h
    · simp at h
    · rename_i h2
      simp only [amongB, amount, decide_eq_true_eq] at h1
      omega
  · simp at h
theorem may_ok {t : T7} {p c a : Int} (h : (0 ≤ t.id ∧ t.id < 65536) ∧ (0 ≤ t.buyer ∧ t.buyer < p) ∧ (0 ≤ t.seller ∧ t.seller < p) ∧ (0 ≤ t.cash ∧ t.cash < c) ∧ (0 ≤ t.asset ∧ t.asset < a) ∧ (1 ≤ t.price ∧ t.price ≤ 4611686018427387904) ∧ (1 ≤ t.qty ∧ t.qty ≤ 4611686018427387904) ∧ t.buyer ≠ t.seller) : mayT t p c a = 0 := by
  unfold mayT
  rw [if_pos (by simp only [amongB, amount, decide_eq_true_eq]; omega), if_neg (by omega)]
theorem Rd.trade {w : World} {v : Value} (h : Rd w 31 v) : ∃ t : T7, v = t.val := by
  obtain ⟨cs, rfl, hl, hf⟩ := h.struct Try.underlying31
  rw [show Try.prog.cellsOf 31 = 7 from by kernel_rfl] at hl
  have hi1 : Try.prog.cellsOf 3 = 1 := by kernel_rfl
  match cs, hl with
  | [c0, c1, c2, c3, c4, c5, c6], _ =>
    have f0 : Rc w 3 [c0] := by simpa [hi1] using hf 0 _ rfl
    have f1 : Rc w 3 [c1] := by simpa [hi1] using hf 1 _ rfl
    have f2 : Rc w 3 [c2] := by simpa [hi1] using hf 2 _ rfl
    have f3 : Rc w 3 [c3] := by simpa [hi1] using hf 3 _ rfl
    have f4 : Rc w 3 [c4] := by simpa [hi1] using hf 4 _ rfl
    have f5 : Rc w 3 [c5] := by simpa [hi1] using hf 5 _ rfl
    have f6 : Rc w 3 [c6] := by simpa [hi1] using hf 6 _ rfl
    obtain ⟨n0, h0, _⟩ := f0.int Try.underlying3
    obtain ⟨n1, h1, _⟩ := f1.int Try.underlying3
    obtain ⟨n2, h2, _⟩ := f2.int Try.underlying3
    obtain ⟨n3, h3, _⟩ := f3.int Try.underlying3
    obtain ⟨n4, h4, _⟩ := f4.int Try.underlying3
    obtain ⟨n5, h5, _⟩ := f5.int Try.underlying3
    obtain ⟨n6, h6, _⟩ := f6.int Try.underlying3
    simp at h0 h1 h2 h3 h4 h5 h6
    subst h0; subst h1; subst h2; subst h3; subst h4; subst h5; subst h6
    exact ⟨⟨n0, n1, n2, n3, n4, n5, n6⟩, rfl⟩
theorem sides1 (t : T7) (a : Int) (h : mayT t 16 4 4 = 0) (ha : a = t.buyer ∨ a = t.seller) : putR 16 4 4 [] a t = ([⟨a, t⟩], 0) := by
  unfold putR
  rw [if_neg (by simp [h]), if_neg (by rcases ha with rfl | rfl <;> simp)]
  simp
theorem sides2 (t u : T7) (a b : Int) (h : mayT u 16 4 4 = 0) (hb : b = u.buyer ∨ b = u.seller) (hab : a ≠ b) : putR 16 4 4 [⟨a, t⟩] b u = ([⟨a, t⟩, ⟨b, u⟩], 0) := by
  unfold putR
  rw [if_neg (by simp [h]), if_neg (by rcases hb with rfl | rfl <;> simp)]
  simp [hab]
theorem sides3 (t : T7) (l : List Said) (k : Int) (h : mayT t 16 4 4 = 0) (hk : k ≠ t.buyer ∧ k ≠ t.seller) : putR 16 4 4 l k t = (l, 14) := by
  unfold putR
  rw [if_neg (by simp [h]), if_pos hk]
end Go.Proofs.Ytdpaklpaanojpaa

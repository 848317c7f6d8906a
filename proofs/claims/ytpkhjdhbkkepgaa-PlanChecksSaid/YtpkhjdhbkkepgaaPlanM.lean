/- Plans as bytes: what is read of what was laid (plain). -/
import Derived.Test.YtpkhjdhbkkepgaaPlanL
namespace Go.Proofs.Ytpkhjdhbkkepgaa
open Go.RowKit
theorem beN_layC (n size : Nat) : ∀ c, c ≤ size → beN (layC n size c) = n / 2 ^ (8 * (size - c)) % 2 ^ (8 * c)
  | 0, _ => by simp [layC, beN, Nat.mod_one]
  | c + 1, h => by
    rw [layC_succ, beN_snoc, beN_layC n size c (by omega)]
    obtain ⟨d, hd⟩ : ∃ d, n / 2 ^ (8 * (size - (c + 1))) = d := ⟨_, rfl⟩
    have e1 : n / 2 ^ (8 * (size - c)) = d / 256 := by
      rw [← hd, Nat.div_div_eq_div_mul, show 8 * (size - c) = 8 * (size - (c + 1)) + 8 by omega, Nat.pow_add]
    have e2 : (byteAt n (size - 1 - c)).toNat = d % 256 := by
      rw [show size - 1 - c = size - (c + 1) by omega]
      simp [byteAt, hd]
    rw [e1, e2, hd, show 8 * (c + 1) = 8 + 8 * c by omega, Nat.pow_add]
    rw [Nat.mod_mul]
    have : (2 : Nat) ^ 8 = 256 := rfl
    rw [this]
    omega
theorem decN_nb {x : Int} {k : Nat} (rest : List UInt8) (h0 : 0 ≤ x) (hx : x ≤ 4611686018427387904) (hfit : x.toNat < 2 ^ (8 * k)) : decN (nb x k ++ rest) 0 k = (x, rest, 0) := by
  have hl := nb_length x k
  have ht : (nb x k ++ rest).take k = nb x k := List.take_left' hl
  have hb : beN (nb x k) = x.toNat := by
    unfold nb
    rw [beN_layC _ _ _ (Nat.le_refl _), Nat.sub_self]
    simp only [Nat.mul_zero, Nat.pow_zero, Nat.div_one]
    exact Nat.mod_eq_of_lt hfit
  have hn : numF (nb x k ++ rest) k = (x, 0) := by
    unfold numF
    rw [if_neg (by rw [List.length_append, hl]; omega), ht, hb, if_neg (by omega), Int.toNat_of_nonneg h0]
  unfold decN
  rw [if_neg (by simp), hn]
  simp only [ne_eq, not_true_eq_false, if_false]
  rw [List.drop_left' hl]
theorem partsF_nb : ∀ (ps : List Int) (rest : List UInt8), (∀ x ∈ ps, 0 ≤ x ∧ x < 16) → partsF ps.length (ps.flatMap (fun x => nb x 1) ++ rest) 0 = (ps, rest, 0)
  | [], rest, _ => by simp [partsF]
  | x :: ps, rest, h => by
    obtain ⟨h1, h2⟩ := h x (by simp)
    rw [List.flatMap_cons, List.append_assoc, List.length_cons, partsF_go (by omega) (decN_nb _ h1 (by omega) (by omega)), Nat.add_sub_cancel, partsF_nb ps rest (fun y hy => h y (by simp [hy]))]
theorem itemsF_nb : ∀ (l : List It) (rest : List UInt8), (∀ x ∈ l, x.ok) → itemsF l.length (l.flatMap It.bytes ++ rest) 0 = (l, rest, 0)
  | [], rest, _ => by simp [itemsF]
  | ⟨a, b, c⟩ :: l, rest, h => by
    obtain ⟨h1, h2, h3, h4, h5, h6⟩ := h ⟨a, b, c⟩ (by simp)
    simp only at h1 h2 h3 h4 h5 h6
    rw [List.flatMap_cons, It.bytes]
    simp only [List.append_assoc]
    rw [List.length_cons, itemsF_go (by omega) (decN_nb _ h1 (by omega) (by omega)) (decN_nb _ h3 (by omega) (by omega)) (decN_nb _ (by omega) h6 (by omega)), Nat.add_sub_cancel, itemsF_nb l rest (fun y hy => h y (by simp [hy]))]
theorem legsF_nb : ∀ (ls : List (List It)) (rest : List UInt8), (∀ l ∈ ls, l.length ≤ 8 ∧ ∀ x ∈ l, x.ok) → legsF ls.length (ls.flatMap legE ++ rest) 0 = (ls, rest, 0)
  | [], rest, _ => by simp [legsF]
  | l :: ls, rest, h => by
    obtain ⟨h1, h2⟩ := h l (by simp)
    rw [List.flatMap_cons, legE]
    simp only [List.append_assoc]
    rw [List.length_cons, legsF_go (by omega) (decN_nb _ (by omega) (by omega) (by omega)) (itemsF_nb l _ h2), Nat.add_sub_cancel, legsF_nb ls rest (fun y hy => h y (by simp [hy]))]
theorem decF_bytes {P : Pl} (h : checkN P 16 4 4 = 0) : decF P.bytes = (P, 0) := by
  have hm := checkN_self h
  have he : encF P = (P.bytes, 0) := if_pos h
  obtain ⟨⟨hd1, hd2, ⟨hp2, hp16, hrng, -⟩, hnn, hlg, htk, t1, t2, t3, t4⟩, -, hz⟩ := make_own hm
  have hlegs : ∀ l ∈ P.ls, l.length ≤ 8 ∧ ∀ x ∈ l, x.ok := fun l hl => (legB_ok (List.all_eq_true.1 hlg l hl)).2
  obtain ⟨s1, s2⟩ := htk
  obtain ⟨tail, htail⟩ : ∃ t, nb P.start 8 ++ nb P.eps 2 ++ nb P.wait 2 = t := ⟨_, rfl⟩
  have htl : tail.length = 12 := by rw [← htail]; simp [nb_length]
  have hb : P.bytes = nb P.deal 2 ++ (nb P.ps.length 1 ++ (P.ps.flatMap (fun x => nb x 1) ++ (P.ls.flatMap legE ++ (P.hash ++ tail)))) := by
    unfold Pl.bytes
    rw [htail]
    simp only [List.append_assoc]
  have h44 : (P.hash ++ tail).length = 44 := by rw [List.length_append, hz, htl]
  obtain ⟨front, hfr⟩ : ∃ f, P.bytes = f ++ (P.hash ++ tail) := ⟨nb P.deal 2 ++ nb P.ps.length 1 ++ P.ps.flatMap (fun x => nb x 1) ++ P.ls.flatMap legE, by rw [hb]; simp only [List.append_assoc]⟩
  have hA : P.bytes.length - 44 = front.length := by rw [hfr, List.length_append, h44]; omega
  have hdr : P.bytes.drop front.length = P.hash ++ tail := by rw [hfr, List.drop_left' rfl]
  have hT : decT P.bytes P.deal P.ps P.ls = (P, 0) := by
    unfold decT
    simp only
    rw [hA, ← List.drop_drop, hdr, List.take_left' hz, List.drop_left' hz, ← htail]
    simp only [List.append_assoc]
    rw [decN_nb _ s1 (by omega) (by omega)]
    simp only
    rw [decN_nb _ t1 (by omega) (by omega)]
    simp only
    rw [← List.append_nil (nb P.wait 2), decN_nb _ (by omega) (by omega) (by omega), hm]
    simp only
    rw [if_pos ⟨trivial, he⟩]
  unfold decF
  have e1 : decN P.bytes 0 2 = (P.deal, nb P.ps.length 1 ++ (P.ps.flatMap (fun x => nb x 1) ++ (P.ls.flatMap legE ++ (P.hash ++ tail))), 0) := by rw [hb, decN_nb _ hd1 (by omega) (by omega)]
  rw [e1]
  simp only
  rw [decN_nb _ (by omega) (by omega) (by omega)]
  simp only [Int.toNat_natCast]
  rw [partsF_nb _ _ hrng]
  simp only
  rw [← hnn, legsF_nb _ _ hlegs]
  simp only
  rw [h44, if_neg (by simp), hT]
/-- what decodes has these bytes, and is a plan -/
theorem decF_some {b : List UInt8} {Q : Pl} (h : decF b = (Q, 0)) : checkN Q 16 4 4 = 0 ∧ Q.bytes = b := by
  unfold decF at h
  simp only at h
  split at h
  · simp at h
  · unfold decT at h
    simp only at h
    split at h
    · next h2 =>
      obtain ⟨-, h3⟩ := h2
      have hq := (Prod.mk.inj h).1
      rw [hq] at h3
      unfold encF at h3
      split at h3
      · next h4 => exact ⟨h4, (Prod.mk.inj h3).1⟩
      · simp at h3
    · simp at h
theorem decF_cases (b : List UInt8) : (∃ Q, decF b = (Q, 0)) ∨ decF b = (Pl.zero, 2) := by
  unfold decF
  simp only
  split
  · exact .inr rfl
  · unfold decT
    simp only
    split
    · exact .inl ⟨_, rfl⟩
    · exact .inr rfl
/-- what Make makes is right -/
theorem make_check {deal : Int} {ps : List Int} {ls : List (List It)} {h : List UInt8} {start eps wait : Int} {P : Pl} (hm : makeN deal ps ls h start eps wait = (P, 0)) : checkN P 16 4 4 = 0 := by
  rcases makeN_cases hm with ⟨-, dl, h1, h2, h3, rfl⟩ | ⟨h1, -⟩
  · obtain ⟨-, -, ⟨-, -, hrng, -⟩, -, hlg, -, -⟩ := h1
    unfold checkN
    simp only
    rw [if_pos hm, if_neg, if_neg]
    · intro h
      obtain ⟨l, hl, hl2⟩ := List.any_eq_true.1 h
      obtain ⟨x, hx, hx2⟩ := List.any_eq_true.1 hl2
      obtain ⟨-, -, h6⟩ := legB_ok (List.all_eq_true.1 hlg l hl)
      obtain ⟨o1, o2, o3, o4, -, -⟩ := h6 x hx
      simp only [It.over, Bool.or_eq_true, Bool.and_eq_true, beq_iff_eq, decide_eq_true_eq] at hx2
      omega
    · intro h
      obtain ⟨x, hx, hx2⟩ := List.any_eq_true.1 h
      have := hrng x hx
      simp only [decide_eq_true_eq] at hx2
      omega
  · exact absurd rfl h1
end Go.Proofs.Ytpkhjdhbkkepgaa

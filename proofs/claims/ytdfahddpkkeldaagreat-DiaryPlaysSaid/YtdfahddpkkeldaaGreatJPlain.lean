/- Package journal, plain: frames that Get finds again. -/
import Derived.Test.YtdfahddpkkeldaaGreatFrameE
import Derived.Test.YtdfahddpkkeldaaGreatCurs
set_option linter.unusedSimpArgs false
set_option linter.unusedVariables false
namespace Go.Proofs.YtdfahddpkkeldaaGreat
open Go.RowKit
theorem byteAt_toNat (n k : Nat) : (byteAt n k).toNat = n / 2 ^ (8 * k) % 256 := by simp [byteAt]
theorem beN_layC1 (n : Nat) (h : n ≤ 255) : beN (layC n 1 1) = n := by
 simp [layC, List.range_succ, beN, byteAt_toNat]
 omega
theorem beN_layC4 (n : Nat) (h : n ≤ 4294967295) : beN (layC n 4 4) = n := by
 simp [layC, List.range_succ, beN, byteAt_toNat]
 omega
/-- a text filled up to whole sectors -/
def fullF (t : List UInt8) (S : Nat) : List UInt8 := t ++ List.replicate (63 * S - t.length) 0
theorem fullF_length (t : List UInt8) (S : Nat) (h : t.length ≤ 63 * S) : (fullF t S).length = 63 * S := by simp [fullF]; omega
theorem fillTo_cut (t : List UInt8) (S i : Nat) (h : i < S) : fillTo 63 ((t.drop (63 * i)).take 63) = ((fullF t S).drop (63 * i)).take 63 := by
 apply List.ext_getElem?
 intro k
 simp only [fillTo, fullF, List.getElem?_append, List.getElem?_replicate, List.getElem?_take, List.getElem?_drop, List.length_take, List.length_drop]
 by_cases h1 : k < 63
 ·by_cases h2 : 63 * i + k < t.length
  ·rw [if_pos (by omega), if_pos h1, if_pos (by omega)]; simp [h2]
  ·rw [if_neg (by omega)]
   simp only [h1, h2, ↓reduceIte]
   rw [if_pos (by omega), if_pos (by omega)]
 ·rw [if_neg (by omega)]
  simp only [h1, ↓reduceIte]
  rw [if_neg (by omega)]
theorem sectsTo_cut (t : List UInt8) (i : Nat) : ∀ S, i < S → ((sectsTo t S).drop (64 * i)).take 64 = sect2 t i
 | 0, h => by omega
 | S + 1, h => by
  have hl := sectsTo_length t S
  rw [sectsTo]
  by_cases hi : i < S
  ·rw [List.drop_append_of_le_length (by omega), List.take_append_of_le_length (by rw [List.length_drop]; omega), sectsTo_cut t i S hi]
  ·obtain rfl : i = S := by omega
   rw [← hl, List.drop_left, ← sect2_length t i, List.take_length]
theorem sectsTo_tail (t : List UInt8) (S i : Nat) (h : i < S) : ((sectsTo t S).drop (64 * i + 1)).take 63 = ((fullF t S).drop (63 * i)).take 63 := by
 have h1 := sectsTo_cut t i S h
 have h2 : ((sectsTo t S).drop (64 * i + 1)).take 63 = (((sectsTo t S).drop (64 * i)).take 64).drop 1 := by
  rw [List.drop_take, List.drop_drop]
 rw [h2, h1, sect2, List.drop_succ_cons, List.drop_zero, fillTo_cut t S i h]
theorem sectsTo_mark (t : List UInt8) (S i : Nat) (h : i < S) : (sectsTo t S)[64 * i]? = some 2 := by
 have h1 := sectsTo_cut t i S h
 have h2 : (((sectsTo t S).drop (64 * i)).take 64)[0]? = some 2 := by rw [h1]; rfl
 rw [List.getElem?_take, if_pos (by omega), List.getElem?_drop] at h2
 exact h2
theorem sectorsF_pos (n : Nat) : 1 ≤ sectorsF n := by unfold sectorsF; omega
theorem textF_fits (k g q : Nat) (body : List UInt8) : (textF k g q body).length ≤ 63 * sectorsF body.length := by rw [textF_length]; unfold sectorsF; omega
/-- the mark of each sector of a frame -/
theorem putF_mark (k g q : Nat) (body rest : List UInt8) (i : Nat) (h : i < sectorsF body.length) : (putF k g q body ++ rest)[64 * i]? = some (markF i) := by
 rw [List.getElem?_append_left (by rw [putF_length]; omega)]
 unfold putF markF
 rw [List.getElem?_set, sectsTo_length]
 by_cases h0 : i = 0
 ·subst h0; rw [if_pos (by omega), if_pos (by omega), if_pos rfl]
 ·rw [if_neg (by omega), if_neg h0, sectsTo_mark _ _ _ h]
theorem putF_tail (k g q : Nat) (body rest : List UInt8) (i : Nat) (h : i < sectorsF body.length) : ((putF k g q body ++ rest).drop (64 * i + 1)).take 63 = ((fullF (textF k g q body) (sectorsF body.length)).drop (63 * i)).take 63 := by
 have hl := putF_length k g q body
 rw [List.drop_append_of_le_length (by omega), List.take_append_of_le_length (by rw [List.length_drop]; omega), ← sectsTo_tail _ _ _ h]
 unfold putF
 rw [List.drop_set_of_lt (by omega)]
theorem putF_tails (k g q : Nat) (body rest : List UInt8) : ∀ n, n ≤ sectorsF body.length → tailsTo (putF k g q body ++ rest) n = (fullF (textF k g q body) (sectorsF body.length)).take (63 * n)
 | 0, _ => rfl
 | n + 1, h => by
  rw [tailsTo, putF_tails k g q body rest n (by omega), putF_tail k g q body rest n (by omega), show 63 * (n + 1) = 63 * n + 63 by omega, List.take_add]
theorem liftOk_iff (b : List UInt8) (n : Nat) : liftOk b n = true ↔ 64 * n ≤ b.length ∧ ∀ i, i < n → b[64 * i]? = some (markF i) := by
  unfold liftOk marksOk
  simp only [Bool.and_eq_true, decide_eq_true_eq, List.all_eq_true, List.mem_range, beq_iff_eq]
  constructor
  · rintro ⟨h1, h2⟩
    refine ⟨h1, fun i hi => ?_⟩
    have := h2 i hi
    rw [List.getD_eq_getElem?_getD, List.getElem?_eq_getElem (by omega)] at this
    rw [List.getElem?_eq_getElem (by omega)]
    simpa using this
  · rintro ⟨h1, h2⟩
    refine ⟨h1, fun i hi => ?_⟩
    rw [List.getD_eq_getElem?_getD, h2 i hi]; rfl
theorem putF_lift (k g q : Nat) (body rest : List UInt8) (n : Nat) (h : n ≤ sectorsF body.length) : liftOk (putF k g q body ++ rest) n = true :=
 (liftOk_iff _ _).2 ⟨by rw [List.length_append, putF_length]; omega, fun i hi => putF_mark k g q body rest i (by omega)⟩
theorem layC_one (n : Nat) : layC n 1 1 = [byteAt n 0] := rfl
theorem layC_four (n : Nat) : layC n 4 4 = [byteAt n 3, byteAt n 2, byteAt n 1, byteAt n 0] := rfl
theorem putF_head (k g q : Nat) (body rest : List UInt8) (hk : k ≤ 255) (hg : g ≤ 4294967295) (hq : q ≤ 4294967295) (hb : body.length ≤ 60000) : headF (putF k g q body ++ rest) = (k, g, q, body.length) := by
 unfold headF
 rw [putF_tails k g q body rest 1 (sectorsF_pos _)]
 obtain ⟨Y, hY⟩ : ∃ Y, fullF (textF k g q body) (sectorsF body.length) = startsF k g q body.length ++ Y := ⟨_, by rw [fullF, textF, List.append_assoc, List.append_assoc]⟩
 have hYs : startsF k g q body.length = [byteAt 25446 1, byteAt 25446 0, byteAt k 0, byteAt 0 0, byteAt g 3, byteAt g 2, byteAt g 1, byteAt g 0, byteAt q 3, byteAt q 2, byteAt q 1, byteAt q 0, byteAt body.length 3, byteAt body.length 2, byteAt body.length 1, byteAt body.length 0] := rfl
 have e1 := beN_layC1 k hk
 have e2 := beN_layC4 g hg
 have e3 := beN_layC4 q hq
 have e4 := beN_layC4 body.length (by omega)
 rw [layC_one] at e1
 rw [layC_four] at e2 e3 e4
 obtain ⟨Z, hZ⟩ : ∃ Z, (fullF (textF k g q body) (sectorsF body.length)).take (63 * 1) = [byteAt 25446 1, byteAt 25446 0, byteAt k 0, byteAt 0 0, byteAt g 3, byteAt g 2, byteAt g 1, byteAt g 0, byteAt q 3, byteAt q 2, byteAt q 1, byteAt q 0, byteAt body.length 3, byteAt body.length 2, byteAt body.length 1, byteAt body.length 0] ++ Z := ⟨Y.take 47, by rw [hY, hYs]; rfl⟩
 rw [hZ]
 show (beN [byteAt k 0], beN [byteAt g 3, byteAt g 2, byteAt g 1, byteAt g 0], beN [byteAt q 3, byteAt q 2, byteAt q 1, byteAt q 0], beN [byteAt body.length 3, byteAt body.length 2, byteAt body.length 1, byteAt body.length 0]) = _
 rw [e1, e2, e3, e4]
theorem putF_body (k g q : Nat) (body rest : List UInt8) : ((tailsTo (putF k g q body ++ rest) (sectorsF body.length)).drop 24).take body.length = body := by
 have hf := textF_fits k g q body
 rw [putF_tails k g q body rest _ (Nat.le_refl _)]
 have hl : (fullF (textF k g q body) (sectorsF body.length)).take (63 * sectorsF body.length) = fullF (textF k g q body) (sectorsF body.length) := List.take_of_length_le (by rw [fullF_length _ _ hf]; exact Nat.le_refl _)
 rw [hl, fullF, textF]
 have h24 : (startsF k g q body.length ++ (shaOf (startsF k g q body.length ++ body)).take 8).length = 24 := by simp [startsF_length, shaOf_length]
 rw [List.append_assoc _ body, ← h24, List.drop_left, List.take_left]
/-- a frame that was laid is found again, whatever is behind it -/
theorem getF_putF (k g q : Nat) (body rest : List UInt8) (hk : k ≤ 255) (hg : g ≤ 4294967295) (hq : q ≤ 4294967295) (hb : body.length ≤ 60000) : getF (putF k g q body ++ rest) = some (k, g, q, body) := by
 unfold getF
 rw [putF_head k g q body rest hk hg hq hb]
 simp only
 have h4 : putF k g q body = (putF k g q body ++ rest).take (64 * sectorsF body.length) := by rw [← putF_length k g q body, List.take_left]
 rw [putF_body k g q body rest, if_pos ⟨putF_lift k g q body rest 1 (sectorsF_pos _), hb, putF_lift k g q body rest _ (Nat.le_refl _), h4⟩]
/-- what is found was laid so -/
theorem getF_some {b : List UInt8} {k g q : Nat} {body : List UInt8} (h : getF b = some (k, g, q, body)) : b = putF k g q body ++ b.drop (64 * sectorsF body.length) ∧ k ≤ 255 ∧ g ≤ 4294967295 ∧ q ≤ 4294967295 ∧ body.length ≤ 60000 := by
 unfold getF at h
 split at h
 ·rename_i hc
  simp only [Option.some.injEq, Prod.mk.injEq] at h
  obtain ⟨rfl, rfl, rfl, rfl⟩ := h
  obtain ⟨h1, h2, h3, h4⟩ := hc
  have h5 := ((liftOk_iff _ _).1 h3).1
  have hlen : (((tailsTo b (sectorsF (headF b).2.2.2)).drop 24).take (headF b).2.2.2).length = (headF b).2.2.2 := by
   rw [List.length_take, List.length_drop, tailsTo_length _ _ h5]
   unfold sectorsF
   omega
  refine ⟨?_, be1_lt _, be4_lt _, be4_lt _, by rw [hlen]; exact h2⟩
  rw [h4, hlen, List.take_append_drop]
 ·cases h
theorem getF_mark0 {b : List UInt8} (h : b[0]? ≠ some 1) : getF b = none := by
 unfold getF
 rw [if_neg]
 rintro ⟨h1, -⟩
 exact h (((liftOk_iff _ _).1 h1).2 0 (by omega))
/-- a frame that ends ahead of what is different is found in both -/
theorem getF_pre {b c : List UInt8} {k g q m : Nat} {body : List UInt8} (h : getF b = some (k, g, q, body)) (hm : sectorsF body.length ≤ m) (he : b.take (64 * m) = c.take (64 * m)) : getF c = some (k, g, q, body) := by
 obtain ⟨h1, h2, h3, h4, h5⟩ := getF_some h
 have h6 : c = putF k g q body ++ c.drop (64 * sectorsF body.length) := by
  have e : c.take (64 * sectorsF body.length) = putF k g q body := by
   have e1 : (c.take (64 * m)).take (64 * sectorsF body.length) = c.take (64 * sectorsF body.length) := by rw [List.take_take, Nat.min_eq_left (by omega)]
   have e2 : (b.take (64 * m)).take (64 * sectorsF body.length) = b.take (64 * sectorsF body.length) := by rw [List.take_take, Nat.min_eq_left (by omega)]
   rw [← e1, ← he, e2, h1, ← putF_length k g q body, List.take_left]
  rw [← e, List.take_append_drop]
 rw [h6]
 exact getF_putF k g q body _ h2 h3 h4 h5
/-- a frame does not reach over a sector that bears another mark -/
theorem getF_ends {b : List UInt8} {k g q m : Nat} {body : List UInt8} (h : getF b = some (k, g, q, body)) (hm : 0 < m) (hx : b[64 * m]? ≠ some 2) : sectorsF body.length ≤ m := by
 obtain ⟨h1, -⟩ := getF_some h
 apply Nat.le_of_not_lt
 intro hlt
 apply hx
 rw [h1, putF_mark _ _ _ _ _ m hlt]
 simp [markF]; omega
end Go.Proofs.YtdfahddpkkeldaaGreat

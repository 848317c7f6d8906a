/- What the reference's reader tells is what the program's tells (plain). -/
import Derived.Test.YtpkhjdhbkkepgaaRefDecode
import Derived.Test.YtpkhjdhbkkepgaaPlanM
namespace Go.Proofs.Ytpkhjdhbkkepgaa
open Go.RowKit
theorem layC_snoc (n k : Nat) : layC n (k + 1) (k + 1) = layC (n / 256) k k ++ [byteAt n 0] := by
  rw [layC_succ, show k + 1 - 1 - k = 0 by omega]
  congr 1
  unfold layC
  apply List.map_congr_left
  intro j hj
  rw [List.mem_range] at hj
  unfold byteAt
  rw [Nat.div_div_eq_div_mul, show (256 : Nat) = 2 ^ 8 from rfl, ← Nat.pow_add, show 8 + 8 * (k - 1 - j) = 8 * (k + 1 - 1 - j) by omega]
theorem layC_beN : ∀ (k : Nat) (l : List UInt8), l.length = k → layC (beN l) k k = l
  | 0, l, h => by rw [List.eq_nil_of_length_eq_zero h]; rfl
  | k + 1, l, h => by
    rcases List.eq_nil_or_concat l with rfl | ⟨l', c, rfl⟩
    · simp at h
    · rw [List.concat_eq_append] at h ⊢
      rw [List.length_append, List.length_singleton] at h
      have hc := UInt8.toNat_lt c
      rw [layC_snoc, beN_snoc, show (beN l' * 256 + c.toNat) / 256 = beN l' by omega, layC_beN k l' (by omega)]
      congr 2
      unfold byteAt
      rw [Nat.mul_zero, Nat.pow_zero, Nat.div_one]
      apply UInt8.toNat_inj.1
      rw [UInt8.toNat_ofNat']
      omega
theorem decN_inv {l l' : List UInt8} {e x : Int} {k : Nat} (h : decN l e k = (x, l', 0)) : e = 0 ∧ l = nb x k ++ l' := by
  unfold decN at h
  split at h
  · next he =>
    simp only [Prod.mk.injEq] at h
    exact absurd h.2.2 he
  · next he =>
    split at h
    · next h2 =>
      simp only [Prod.mk.injEq] at h
      exact absurd h.2.2 h2
    · next h2 =>
      simp only [Prod.mk.injEq] at h
      obtain ⟨rfl, rfl, -⟩ := h
      refine ⟨by omega, ?_⟩
      unfold numF at h2 ⊢
      split at h2
      · simp at h2
      · next h3 =>
        split at h2
        · simp at h2
        · next h4 =>
          rw [if_neg h3, if_neg h4]
          simp only [nb, Int.toNat_natCast]
          rw [layC_beN k _ (by rw [List.length_take]; omega), List.take_append_drop]
theorem partsF_inv : ∀ {n : Nat} {l l' : List UInt8} {e : Int} {ps : List Int}, partsF n l e = (ps, l', 0) → e = 0 ∧ ps.length = n ∧ l = ps.flatMap (fun x => nb x 1) ++ l'
  | 0, l, l', e, ps, h => by
    simp only [partsF, Prod.mk.injEq] at h
    obtain ⟨rfl, rfl, rfl⟩ := h
    simp
  | n + 1, l, l', e, ps, h => by
    unfold partsF at h
    split at h
    · next he =>
      obtain ⟨x, l1, e1, hd⟩ : ∃ x l1 e1, decN l 0 1 = (x, l1, e1) := ⟨_, _, _, rfl⟩
      obtain ⟨q, l2, e2, hq⟩ : ∃ u v w, partsF n l1 e1 = (u, v, w) := ⟨_, _, _, rfl⟩
      rw [hd] at h
      simp only at h
      rw [hq] at h
      simp only [Prod.mk.injEq] at h
      obtain ⟨rfl, rfl, rfl⟩ := h
      obtain ⟨rfl, h2, h3⟩ := partsF_inv hq
      obtain ⟨-, h4⟩ := decN_inv hd
      refine ⟨he, by simp [h2], ?_⟩
      rw [h4, h3, List.flatMap_cons, List.append_assoc]
    · next he =>
      simp only [Prod.mk.injEq] at h
      exact absurd h.2.2 he
theorem itemsF_inv : ∀ {n : Nat} {l l' : List UInt8} {e : Int} {is : List It}, itemsF n l e = (is, l', 0) → e = 0 ∧ is.length = n ∧ l = is.flatMap It.bytes ++ l'
  | 0, l, l', e, is, h => by
    simp only [itemsF, Prod.mk.injEq] at h
    obtain ⟨rfl, rfl, rfl⟩ := h
    simp
  | n + 1, l, l', e, is, h => by
    unfold itemsF at h
    split at h
    · next he =>
      obtain ⟨x, l1, e1, h1⟩ : ∃ x l1 e1, decN l 0 1 = (x, l1, e1) := ⟨_, _, _, rfl⟩
      obtain ⟨y, l2, e2, h2⟩ : ∃ u v w, decN l1 e1 1 = (u, v, w) := ⟨_, _, _, rfl⟩
      obtain ⟨z, l3, e3, h3⟩ : ∃ u v w, decN l2 e2 8 = (u, v, w) := ⟨_, _, _, rfl⟩
      obtain ⟨q, l4, e4, hq⟩ : ∃ u v w, itemsF n l3 e3 = (u, v, w) := ⟨_, _, _, rfl⟩
      simp only [h1, h2, h3, hq, Prod.mk.injEq] at h
      obtain ⟨rfl, rfl, rfl⟩ := h
      obtain ⟨rfl, g2, g3⟩ := itemsF_inv hq
      obtain ⟨rfl, g4⟩ := decN_inv h3
      obtain ⟨rfl, g5⟩ := decN_inv h2
      obtain ⟨-, g6⟩ := decN_inv h1
      refine ⟨he, by simp [g2], ?_⟩
      rw [g6, g5, g4, g3, List.flatMap_cons]
      simp only [It.bytes, List.append_assoc]
    · next he =>
      simp only [Prod.mk.injEq] at h
      exact absurd h.2.2 he
theorem legsR_inv : ∀ {n : Nat} {l l' : List UInt8} {e : Int} {ls : List (List It)}, legsR n l e = (ls, l', 0) → e = 0 ∧ ls.length = n ∧ l = ls.flatMap legE ++ l'
  | 0, l, l', e, ls, h => by
    simp only [legsR, Prod.mk.injEq] at h
    obtain ⟨rfl, rfl, rfl⟩ := h
    simp
  | n + 1, l, l', e, ls, h => by
    unfold legsR at h
    split at h
    · next he =>
      obtain ⟨x, l1, e1, h1⟩ : ∃ x l1 e1, decN l 0 1 = (x, l1, e1) := ⟨_, _, _, rfl⟩
      have h0 := decN_lo l 0 1
      rw [h1] at h0
      obtain ⟨k, rfl⟩ := Int.eq_ofNat_of_zero_le (show 0 ≤ x from h0)
      obtain ⟨is, l2, e2, h2⟩ : ∃ u v w, itemsF k l1 e1 = (u, v, w) := ⟨_, _, _, rfl⟩
      obtain ⟨q, l4, e4, hq⟩ : ∃ u v w, legsR n l2 e2 = (u, v, w) := ⟨_, _, _, rfl⟩
      simp only [h1, Int.toNat_natCast, h2, hq, Prod.mk.injEq] at h
      obtain ⟨rfl, rfl, rfl⟩ := h
      obtain ⟨rfl, g2, g3⟩ := legsR_inv hq
      obtain ⟨rfl, g4, g5⟩ := itemsF_inv h2
      obtain ⟨-, g6⟩ := decN_inv h1
      refine ⟨he, by simp [g2], ?_⟩
      rw [g6, g5, g3, List.flatMap_cons]
      simp only [legE, g4, List.append_assoc]
    · next he =>
      simp only [Prod.mk.injEq] at h
      exact absurd h.2.2 he
theorem rawN_inv {l l' h : List UInt8} {e : Int} {n : Nat} (hr : rawN l e n = (h, l', 0)) : e = 0 ∧ l = h ++ l' := by
  unfold rawN at hr
  split at hr
  · next he =>
    simp only [Prod.mk.injEq] at hr
    exact absurd hr.2.2 he
  · next he =>
    split at hr
    · simp at hr
    · simp only [Prod.mk.injEq] at hr
      obtain ⟨rfl, rfl, -⟩ := hr
      exact ⟨by omega, (List.take_append_drop n l).symm⟩
theorem legsR_nb : ∀ (ls : List (List It)) (rest : List UInt8), (∀ l ∈ ls, l.length ≤ 8 ∧ ∀ x ∈ l, x.ok) → legsR ls.length (ls.flatMap legE ++ rest) 0 = (ls, rest, 0)
  | [], rest, _ => by simp [legsR]
  | l :: ls, rest, h => by
    obtain ⟨h1, h2⟩ := h l (by simp)
    rw [List.flatMap_cons, legE]
    simp only [List.append_assoc]
    rw [List.length_cons, legsR_go (by omega) (decN_nb _ (by omega) (by omega) (by omega)) (itemsF_nb l _ h2), Nat.add_sub_cancel, legsR_nb ls rest (fun y hy => h y (by simp [hy]))]
theorem refDecF_cases (b : List UInt8) : (∃ Q, refDecF b = (Q, 0)) ∨ refDecF b = (Pl.zero, 2) := by
  unfold refDecF
  simp only
  split
  · exact .inr rfl
  · split
    · exact .inl ⟨_, rfl⟩
    · exact .inr rfl
theorem refDecF_some {b : List UInt8} {Q : Pl} (h : refDecF b = (Q, 0)) : checkN Q 16 4 4 = 0 ∧ Q.bytes = b := by
  obtain ⟨deal, l1, e1, h1⟩ : ∃ x l1 e1, decN b 0 2 = (x, l1, e1) := ⟨_, _, _, rfl⟩
  obtain ⟨x, l2, e2, h2⟩ : ∃ u v w, decN l1 e1 1 = (u, v, w) := ⟨_, _, _, rfl⟩
  have h0 := decN_lo l1 e1 1
  rw [h2] at h0
  obtain ⟨n, rfl⟩ := Int.eq_ofNat_of_zero_le (show 0 ≤ x from h0)
  obtain ⟨ps, l3, e3, h3⟩ : ∃ u v w, partsF n l2 e2 = (u, v, w) := ⟨_, _, _, rfl⟩
  obtain ⟨ls, l4, e4, h4⟩ : ∃ u v w, legsR n l3 e3 = (u, v, w) := ⟨_, _, _, rfl⟩
  obtain ⟨hz, l5, e5, h5⟩ : ∃ u v w, rawN l4 e4 32 = (u, v, w) := ⟨_, _, _, rfl⟩
  obtain ⟨ss, l6, e6, h6⟩ : ∃ u v w, decN l5 e5 8 = (u, v, w) := ⟨_, _, _, rfl⟩
  obtain ⟨ee, l7, e7, h7⟩ : ∃ u v w, decN l6 e6 2 = (u, v, w) := ⟨_, _, _, rfl⟩
  obtain ⟨ww, l8, e8, h8⟩ : ∃ u v w, decN l7 e7 2 = (u, v, w) := ⟨_, _, _, rfl⟩
  obtain ⟨M, hM⟩ : ∃ M, makeN deal ps ls hz ss ee ww = M := ⟨_, rfl⟩
  unfold refDecF at h
  simp only [h1, h2, Int.toNat_natCast, h3, h4, h5, h6, h7, h8, hM] at h
  split at h
  · simp [Pl.zero] at h
  · next hb =>
    split at h
    · next hm0 =>
      simp only [Prod.mk.injEq, and_true] at h
      have he8 : e8 = 0 := by omega
      have hl8 : l8 = [] := List.eq_nil_of_length_eq_zero (by omega)
      subst he8 hl8
      obtain ⟨rfl, g8⟩ := decN_inv h8
      obtain ⟨rfl, g7⟩ := decN_inv h7
      obtain ⟨rfl, g6⟩ := decN_inv h6
      obtain ⟨rfl, g5⟩ := rawN_inv h5
      obtain ⟨rfl, k4, g4⟩ := legsR_inv h4
      obtain ⟨rfl, k3, g3⟩ := partsF_inv h3
      obtain ⟨rfl, g2⟩ := decN_inv h2
      obtain ⟨-, g1⟩ := decN_inv h1
      have hmk : makeN deal ps ls hz ss ee ww = (Q, 0) := by rw [hM, ← h, ← hm0]
      refine ⟨make_check hmk, ?_⟩
      rcases makeN_cases hmk with ⟨-, dl, -, -, -, rfl⟩ | ⟨hc, -⟩
      · rw [g1, g2, g3, g4, g5, g6, g7, g8]
        simp only [Pl.bytes, k3, List.append_assoc, List.append_nil]
      · exact absurd rfl hc
    · simp [Pl.zero] at h
theorem refDecF_bytes {P : Pl} (h : checkN P 16 4 4 = 0) : refDecF P.bytes = (P, 0) := by
  have hm := checkN_self h
  obtain ⟨⟨hd1, hd2, ⟨hp2, hp16, hrng, -⟩, hnn, hlg, htk, t1, t2, t3, t4⟩, -, hz⟩ := make_own hm
  have hlegs : ∀ l ∈ P.ls, l.length ≤ 8 ∧ ∀ x ∈ l, x.ok := fun l hl => (legB_ok (List.all_eq_true.1 hlg l hl)).2
  obtain ⟨s1, s2⟩ := htk
  have hb : P.bytes = nb P.deal 2 ++ (nb P.ps.length 1 ++ (P.ps.flatMap (fun x => nb x 1) ++ (P.ls.flatMap legE ++ (P.hash ++ (nb P.start 8 ++ (nb P.eps 2 ++ (nb P.wait 2 ++ []))))))) := by
    unfold Pl.bytes
    simp only [List.append_assoc, List.append_nil]
  have h1 := decN_nb (x := P.deal) (k := 2) (nb P.ps.length 1 ++ (P.ps.flatMap (fun x => nb x 1) ++ (P.ls.flatMap legE ++ (P.hash ++ (nb P.start 8 ++ (nb P.eps 2 ++ (nb P.wait 2 ++ []))))))) hd1 (by omega) (by omega)
  have h2 := decN_nb (x := (P.ps.length : Int)) (k := 1) (P.ps.flatMap (fun x => nb x 1) ++ (P.ls.flatMap legE ++ (P.hash ++ (nb P.start 8 ++ (nb P.eps 2 ++ (nb P.wait 2 ++ [])))))) (by omega) (by omega) (by omega)
  have h3 := partsF_nb P.ps (P.ls.flatMap legE ++ (P.hash ++ (nb P.start 8 ++ (nb P.eps 2 ++ (nb P.wait 2 ++ []))))) hrng
  have h4 := legsR_nb P.ls (P.hash ++ (nb P.start 8 ++ (nb P.eps 2 ++ (nb P.wait 2 ++ [])))) hlegs
  have h5 : rawN (P.hash ++ (nb P.start 8 ++ (nb P.eps 2 ++ (nb P.wait 2 ++ [])))) 0 32 = (P.hash, nb P.start 8 ++ (nb P.eps 2 ++ (nb P.wait 2 ++ [])), 0) := by
    unfold rawN
    rw [if_neg (by simp), if_neg (by rw [List.length_append]; omega), List.take_left' hz, List.drop_left' hz]
  have h6 := decN_nb (x := P.start) (k := 8) (nb P.eps 2 ++ (nb P.wait 2 ++ [])) s1 (by omega) (by omega)
  have h7 := decN_nb (x := P.eps) (k := 2) (nb P.wait 2 ++ []) t1 (by omega) (by omega)
  have h8 := decN_nb (x := P.wait) (k := 2) [] (by omega) (by omega) (by omega)
  rw [hnn] at h4
  unfold refDecF
  rw [hb]
  simp only [h1, h2, Int.toNat_natCast, h3, h4, h5, h6, h7, h8, hm]
  simp
/-- the two readers tell the same -/
theorem decF_ref (b : List UInt8) : refDecF b = decF b := by
  rcases refDecF_cases b with ⟨Q, h⟩ | h
  · obtain ⟨h1, h2⟩ := refDecF_some h
    rw [h, ← h2, decF_bytes h1]
  · rcases decF_cases b with ⟨Q, h3⟩ | h3
    · obtain ⟨h1, h2⟩ := decF_some h3
      rw [← h2, refDecF_bytes h1] at h
      simp at h
    · rw [h, h3]
end Go.Proofs.Ytpkhjdhbkkepgaa

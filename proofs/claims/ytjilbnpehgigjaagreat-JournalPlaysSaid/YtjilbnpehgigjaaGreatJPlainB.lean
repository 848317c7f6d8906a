/- What is read of a disk's sectors; plain. -/
import Derived.Test.YtjilbnpehgigjaaGreatDiskB
import Derived.Test.YtjilbnpehgigjaaGreatFrameE
import Derived.Test.YtjilbnpehgigjaaGreatJPic
namespace Go.Proofs.YtjilbnpehgigjaaGreat
open Go.RowKit
/-- what is read of sector i -/
def DS.cur (d : DS) (i : Nat) : List UInt8 := match d.pend.find? (fun p => p.1 == (i : Int)) with | some p => p.2 | none => d.lasts.getD i []
def DS.curs (d : DS) : List (List UInt8) := (List.range d.lasts.length).map d.cur
theorem curs_length (d : DS) : d.curs.length = d.lasts.length := by simp [DS.curs]
theorem synced_curs (d : DS) : d.synced = d.curs := by
  unfold DS.synced DS.curs
  apply List.map_congr_left
  intro i _
  unfold laid DS.cur
  cases d.pend.find? (fun p => p.1 == (i : Int)) <;> simp
theorem curs_none (l : List (List UInt8)) (f : Int) (b : Bool) : DS.curs ⟨l, [], f, b⟩ = l := by
  apply List.ext_getElem
  · simp [DS.curs]
  · intro i h1 h2
    simp [DS.curs, DS.cur, h2]
theorem read_cur (d : DS) (i : Int) : d.read i = if d.sector i ≠ 0 then ([], d.sector i) else (d.curs.getD i.toNat [], 0) := by
  unfold DS.read
  by_cases h : d.sector i ≠ 0
  · rw [if_pos h, if_pos h]
  · rw [if_neg h, if_neg h]
    have h2 := DS.sector_ok (by simpa using h : d.sector i = 0)
    obtain ⟨n, rfl⟩ := Int.eq_ofNat_of_zero_le h2.2.1
    have hn : n < d.lasts.length := by omega
    simp only [DS.curs, Int.toNat_natCast]
    rw [show ((List.range d.lasts.length).map d.cur).getD n [] = d.cur n by simp [hn]]
    unfold DS.cur
    cases d.pend.find? (fun p => p.1 == (n : Int)) <;> rfl
theorem find_bput (m : List (Int × List UInt8)) (k j : Int) (l : List UInt8) : (bput m k l).find? (fun p => p.1 == j) = if j = k then some (k, l) else m.find? (fun p => p.1 == j) := by
  unfold bput
  split
  · rename_i hk
    induction m with
    | nil => simp at hk
    | cons a m ih =>
      rw [List.map_cons, List.find?_cons, List.find?_cons]
      by_cases ha : a.1 = k
      · rw [if_pos ha]
        by_cases hj : j = k
        · subst hj; simp
        · rw [if_neg hj]
          have h1 : ((k, l).1 == j) = false := by simp; omega
          have h2 : (a.1 == j) = false := by simp; omega
          rw [h1, h2]
          simp only
          by_cases hkm : k ∈ m.map (·.1)
          · have := ih hkm
            rw [if_neg hj] at this
            exact this
          · have : ∀ x ∈ m, ¬ x.1 = k := fun x hx e => hkm (List.mem_map.2 ⟨x, hx, e⟩)
            rw [show m.map (fun p => if p.1 = k then (k, l) else p) = m from by
              rw [List.map_congr_left (g := id) (fun x hx => by rw [if_neg (this x hx)]; rfl)]; simp]
      · rw [if_neg ha]
        have hkm : k ∈ m.map (·.1) := by
          rcases List.mem_cons.1 hk with h | h
          · exact absurd h.symm ha
          · exact h
        by_cases haj : a.1 = j
        · have h1 : (a.1 == j) = true := by simp [haj]
          rw [h1, if_neg (by omega)]
        · have h1 : (a.1 == j) = false := by simp [haj]
          rw [h1]
          exact ih hkm
  · rename_i hk
    rw [List.find?_append]
    by_cases hj : j = k
    · subst hj
      rw [if_pos rfl, List.find?_eq_none.2 (fun x hx => by simp; exact fun e => hk (List.mem_map.2 ⟨x, hx, e⟩))]
      simp
    · rw [if_neg hj]
      have : [(k, l)].find? (fun p => p.1 == j) = none := by simp; omega
      rw [this]
      simp
theorem curs_bput (d : DS) (k : Nat) (l : List UInt8) : DS.curs { d with pend := bput d.pend k l } = d.curs.set k l := by
  apply List.ext_getElem
  · simp [DS.curs]
  · intro i h1 h2
    simp only [DS.curs, List.getElem_map, List.getElem_range, List.getElem_set]
    simp only [DS.cur, find_bput]
    by_cases h : k = i
    · subst h; simp
    · rw [if_neg h, if_neg (by omega)]
end Go.Proofs.YtjilbnpehgigjaaGreat

/- Package journal, plain: frames that Get finds again. -/
namespace Go.Proofs.YtjilbnpehgigjaaGreat
open Go.RowKit
theorem byteAt_toNat (n k : Nat) : (byteAt n k).toNat = n / 2 ^ (8 * k) % 256 := by simp [byteAt]
theorem beN_layC1 (n : Nat) (h : n ≤ 255) : beN (layC n 1 1) = n := by
  simp [layC, List.range_succ, beN, byteAt_toNat]
  omega
theorem beN_layC4 (n : Nat) (h : n ≤ 4294967295) : beN (layC n 4 4) = n := by
  simp [layC, List.range_succ, beN, byteAt_toNat]
  omega
/-- a text filled up to whole sectors -/
def fullF (t : List UInt8) (S : Nat) : List UInt8 := t ++ List.replicate (63 * S - t.length) 0
theorem fullF_length (t : List UInt8) (S : Nat) (h : t.length ≤ 63 * S) : (fullF t S).length = 63 * S := by simp [fullF]; omega
theorem fillTo_cut (t : List UInt8) (S i : Nat) (h : i < S) : fillTo 63 ((t.drop (63 * i)).take 63) = ((fullF t S).drop (63 * i)).take 63 := by
  apply List.ext_getElem?
  intro k
  simp only [fillTo, fullF, List.getElem?_append, List.getElem?_replicate, List.getElem?_take, List.getElem?_drop, List.length_take, List.length_drop]
  by_cases h1 : k < 63
  · by_cases h2 : 63 * i + k < t.length
    · rw [if_pos (by omega), if_pos h1, if_pos (by omega)]; simp [h2]
    · rw [if_neg (by omega)]
      simp only [h1, h2, ↓reduceIte]
      rw [if_pos (by omega), if_pos (by omega)]
  · rw [if_neg (by omega)]
    simp only [h1, ↓reduceIte]
    rw [if_neg (by omega)]
theorem sectsTo_cut (t : List UInt8) (i : Nat) : ∀ S, i < S → ((sectsTo t S).drop (64 * i)).take 64 = sect2 t i
  | 0, h => by omega
  | S + 1, h => by
    have hl := sectsTo_length t S
    rw [sectsTo]
    by_cases hi : i < S
    · rw [List.drop_append_of_le_length (by omega), List.take_append_of_le_length (by rw [List.length_drop]; omega), sectsTo_cut t i S hi]
    · obtain rfl : i = S := by omega
      rw [← hl, List.drop_left, ← sect2_length t i, List.take_length]
theorem sectsTo_tail (t : List UInt8) (S i : Nat) (h : i < S) : ((sectsTo t S).drop (64 * i + 1)).take 63 = ((fullF t S).drop (63 * i)).take 63 := by
  have h1 := sectsTo_cut t i S h
  have h2 : ((sectsTo t S).drop (64 * i + 1)).take 63 = (((sectsTo t S).drop (64 * i)).take 64).drop 1 := by
    rw [List.drop_take, List.drop_drop]
  rw [h2, h1, sect2, List.drop_succ_cons, List.drop_zero, fillTo_cut t S i h]
theorem sectsTo_mark (t : List UInt8) (S i : Nat) (h : i < S) : (sectsTo t S)[64 * i]? = some 2 := by
  have h1 := sectsTo_cut t i S h
  have h2 : (((sectsTo t S).drop (64 * i)).take 64)[0]? = some 2 := by rw [h1]; rfl
  rw [List.getElem?_take, if_pos (by omega), List.getElem?_drop] at h2
  exact h2
theorem sectorsF_pos (n : Nat) : 1 ≤ sectorsF n := by unfold sectorsF; omega
theorem textF_fits (k g q : Nat) (body : List UInt8) : (textF k g q body).length ≤ 63 * sectorsF body.length := by rw [textF_length]; unfold sectorsF; omega
/-- the mark of each sector of a frame -/
theorem putF_mark (k g q : Nat) (body rest : List UInt8) (i : Nat) (h : i < sectorsF body.length) : (putF k g q body ++ rest)[64 * i]? = some (markF i) := by
  rw [List.getElem?_append_left (by rw [putF_length]; omega)]
  unfold putF markF
  rw [List.getElem?_set, sectsTo_length]
  by_cases h0 : i = 0
  · subst h0; rw [if_pos (by omega), if_pos (by omega), if_pos rfl]
  · rw [if_neg (by omega), if_neg h0, sectsTo_mark _ _ _ h]
theorem putF_tail (k g q : Nat) (body rest : List UInt8) (i : Nat) (h : i < sectorsF body.length) : ((putF k g q body ++ rest).drop (64 * i + 1)).take 63 = ((fullF (textF k g q body) (sectorsF body.length)).drop (63 * i)).take 63 := by
  have hl := putF_length k g q body
  rw [List.drop_append_of_le_length (by omega), List.take_append_of_le_length (by rw [List.length_drop]; omega), ← sectsTo_tail _ _ _ h]
  unfold putF
  rw [List.drop_set_of_lt (by omega)]
theorem putF_tails (k g q : Nat) (body rest : List UInt8) : ∀ n, n ≤ sectorsF body.length → tailsTo (putF k g q body ++ rest) n = (fullF (textF k g q body) (sectorsF body.length)).take (63 * n)
  | 0, _ => rfl
  | n + 1, h => by
    rw [tailsTo, putF_tails k g q body rest n (by omega), putF_tail k g q body rest n (by omega), show 63 * (n + 1) = 63 * n + 63 by omega, List.take_add]
theorem liftOk_iff (b : List UInt8) (n : Nat) : liftOk b n = true ↔ 64 * n ≤ b.length ∧ ∀ i, i < n → b[64 * i]? = some (markF i) := by
  unfold liftOk marksOk
  simp only [Bool.and_eq_true, decide_eq_true_eq, List.all_eq_true, List.mem_range, beq_iff_eq]
  constructor
  · rintro ⟨h1, h2⟩
    refine ⟨h1, fun i hi => ?_⟩
    have := h2 i hi
    rw [List.getD_eq_getElem?_getD, List.getElem?_eq_getElem (by omega)] at this
    rw [List.getElem?_eq_getElem (by omega)]
    simpa using this
  · rintro ⟨h1, h2⟩
    refine ⟨h1, fun i hi => ?_⟩
    rw [List.getD_eq_getElem?_getD, h2 i hi]; rfl
theorem putF_lift (k g q : Nat) (body rest : List UInt8) (n : Nat) (h : n ≤ sectorsF body.length) : liftOk (putF k g q body ++ rest) n = true :=
  (liftOk_iff _ _).2 ⟨by rw [List.length_append, putF_length]; omega, fun i hi => putF_mark k g q body rest i (by omega)⟩
theorem layC_one (n : Nat) : layC n 1 1 = [byteAt n 0] := rfl
theorem layC_two (n : Nat) : layC n 2 2 = [byteAt n 1, byteAt n 0] := rfl
theorem layC_four (n : Nat) : layC n 4 4 = [byteAt n 3, byteAt n 2, byteAt n 1, byteAt n 0] := rfl
theorem putF_head (k g q : Nat) (body rest : List UInt8) (hk : k ≤ 255) (hg : g ≤ 4294967295) (hq : q ≤ 4294967295) (hb : body.length ≤ 60000) : headF (putF k g q body ++ rest) = (k, g, q, body.length) := by
  unfold headF
  rw [putF_tails k g q body rest 1 (sectorsF_pos _)]
  obtain ⟨Y, hY⟩ : ∃ Y, fullF (textF k g q body) (sectorsF body.length) = startsF k g q body.length ++ Y := ⟨_, by rw [fullF, textF, List.append_assoc, List.append_assoc]⟩
  have hYs : startsF k g q body.length = [byteAt 25446 1, byteAt 25446 0, byteAt k 0, byteAt 0 0, byteAt g 3, byteAt g 2, byteAt g 1, byteAt g 0, byteAt q 3, byteAt q 2, byteAt q 1, byteAt q 0, byteAt body.length 3, byteAt body.length 2, byteAt body.length 1, byteAt body.length 0] := rfl
  have e1 := beN_layC1 k hk
  have e2 := beN_layC4 g hg
  have e3 := beN_layC4 q hq
  have e4 := beN_layC4 body.length (by omega)
  rw [layC_one] at e1
  rw [layC_four] at e2 e3 e4
  obtain ⟨Z, hZ⟩ : ∃ Z, (fullF (textF k g q body) (sectorsF body.length)).take (63 * 1) = [byteAt 25446 1, byteAt 25446 0, byteAt k 0, byteAt 0 0, byteAt g 3, byteAt g 2, byteAt g 1, byteAt g 0, byteAt q 3, byteAt q 2, byteAt q 1, byteAt q 0, byteAt body.length 3, byteAt body.length 2, byteAt body.length 1, byteAt body.length 0] ++ Z := ⟨Y.take 47, by rw [hY, hYs]; rfl⟩
  rw [hZ]
  show (beN [byteAt k 0], beN [byteAt g 3, byteAt g 2, byteAt g 1, byteAt g 0], beN [byteAt q 3, byteAt q 2, byteAt q 1, byteAt q 0], beN [byteAt body.length 3, byteAt body.length 2, byteAt body.length 1, byteAt body.length 0]) = _
  rw [e1, e2, e3, e4]
theorem putF_body (k g q : Nat) (body rest : List UInt8) : ((tailsTo (putF k g q body ++ rest) (sectorsF body.length)).drop 24).take body.length = body := by
  have hf := textF_fits k g q body
  rw [putF_tails k g q body rest _ (Nat.le_refl _)]
  have hl : (fullF (textF k g q body) (sectorsF body.length)).take (63 * sectorsF body.length) = fullF (textF k g q body) (sectorsF body.length) := List.take_of_length_le (by rw [fullF_length _ _ hf]; exact Nat.le_refl _)
  rw [hl, fullF, textF]
  have h24 : (startsF k g q body.length ++ (shaOf (startsF k g q body.length ++ body)).take 8).length = 24 := by simp [startsF_length, shaOf_length]
  rw [List.append_assoc _ body, ← h24, List.drop_left, List.take_left]
/-- a frame that was laid is found again, whatever is behind it -/
theorem getF_putF (k g q : Nat) (body rest : List UInt8) (hk : k ≤ 255) (hg : g ≤ 4294967295) (hq : q ≤ 4294967295) (hb : body.length ≤ 60000) : getF (putF k g q body ++ rest) = some (k, g, q, body) := by
  unfold getF
  rw [putF_head k g q body rest hk hg hq hb]
  simp only
  have h4 : putF k g q body = (putF k g q body ++ rest).take (64 * sectorsF body.length) := by rw [← putF_length k g q body, List.take_left]
  rw [putF_body k g q body rest, if_pos ⟨putF_lift k g q body rest 1 (sectorsF_pos _), hb, putF_lift k g q body rest _ (Nat.le_refl _), h4⟩]
/-- what is found was laid so -/
theorem getF_some {b : List UInt8} {k g q : Nat} {body : List UInt8} (h : getF b = some (k, g, q, body)) : b = putF k g q body ++ b.drop (64 * sectorsF body.length) ∧ k ≤ 255 ∧ g ≤ 4294967295 ∧ q ≤ 4294967295 ∧ body.length ≤ 60000 := by
  unfold getF at h
  split at h
  · rename_i hc
    simp only [Option.some.injEq, Prod.mk.injEq] at h
    obtain ⟨rfl, rfl, rfl, rfl⟩ := h
    obtain ⟨h1, h2, h3, h4⟩ := hc
    have h5 := ((liftOk_iff _ _).1 h3).1
    have hlen : (((tailsTo b (sectorsF (headF b).2.2.2)).drop 24).take (headF b).2.2.2).length = (headF b).2.2.2 := by
      rw [List.length_take, List.length_drop, tailsTo_length _ _ h5]
      unfold sectorsF
      omega
    refine ⟨?_, be1_lt _, be4_lt _, be4_lt _, by rw [hlen]; exact h2⟩
    rw [h4, hlen, List.take_append_drop]
  · cases h
theorem getF_mark0 {b : List UInt8} (h : b[0]? ≠ some 1) : getF b = none := by
  unfold getF
  rw [if_neg]
  rintro ⟨h1, -⟩
  exact h (((liftOk_iff _ _).1 h1).2 0 (by omega))
/-- a frame that ends ahead of what is different is found in both -/
theorem getF_pre {b c : List UInt8} {k g q m : Nat} {body : List UInt8} (h : getF b = some (k, g, q, body)) (hm : sectorsF body.length ≤ m) (he : b.take (64 * m) = c.take (64 * m)) : getF c = some (k, g, q, body) := by
  obtain ⟨h1, h2, h3, h4, h5⟩ := getF_some h
  have h6 : c = putF k g q body ++ c.drop (64 * sectorsF body.length) := by
    have e : c.take (64 * sectorsF body.length) = putF k g q body := by
      have e1 : (c.take (64 * m)).take (64 * sectorsF body.length) = c.take (64 * sectorsF body.length) := by rw [List.take_take, Nat.min_eq_left (by omega)]
      have e2 : (b.take (64 * m)).take (64 * sectorsF body.length) = b.take (64 * sectorsF body.length) := by rw [List.take_take, Nat.min_eq_left (by omega)]
      rw [← e1, ← he, e2, h1, ← putF_length k g q body, List.take_left]
    rw [← e, List.take_append_drop]
  rw [h6]
  exact getF_putF k g q body _ h2 h3 h4 h5
/-- a frame does not reach over a sector that bears another mark -/
theorem getF_ends {b : List UInt8} {k g q m : Nat} {body : List UInt8} (h : getF b = some (k, g, q, body)) (hm : 0 < m) (hx : b[64 * m]? ≠ some 2) : sectorsF body.length ≤ m := by
  obtain ⟨h1, -⟩ := getF_some h
  apply Nat.le_of_not_lt
  intro hlt
  apply hx
  rw [h1, putF_mark _ _ _ _ _ m hlt]
  simp [markF]; omega
end Go.Proofs.YtjilbnpehgigjaaGreat

/- Package journal, plain: what lasts on a disk without a fuse. -/
namespace Go.Proofs.YtjilbnpehgigjaaGreat
open Go.RowKit
/-- a disk that is not down and has no fuse; n sectors -/
structure Good (d : DS) (n : Nat) : Prop where
  up : d.down = false
  free : d.fuse = -1
  len : d.lasts.length = n
  all64 : ∀ x ∈ d.curs, x.length = 64
theorem Good.clen {d : DS} {n : Nat} (h : Good d n) : d.curs.length = n := by rw [curs_length, h.len]
theorem Good.burn {d : DS} {n : Nat} (h : Good d n) : d.burn = d ∧ d.holds = true := by
  unfold DS.burn DS.holds
  rw [h.free]
  exact ⟨rfl, rfl⟩
theorem Good.write {d : DS} {n : Nat} (h : Good d n) (i : Nat) (hi : i < n) (l : List UInt8) (hl : l.length = 64) :
    (d.write ((i : Nat) : Int) l).2 = 0 ∧ Good (d.write ((i : Nat) : Int) l).1 n ∧ (d.write ((i : Nat) : Int) l).1.curs = d.curs.set i l := by
  have hs : d.sector (i : Int) = 0 := by unfold DS.sector; rw [h.up, h.len]; simp; omega
  have hw : d.write ((i : Nat) : Int) l = ({ d with pend := bput d.pend (i : Int) l }, 0) := by
    unfold DS.write
    rw [hs, h.burn.1, h.burn.2]
    simp [hl]
  rw [hw]
  refine ⟨rfl, ⟨h.up, h.free, h.len, ?_⟩, curs_bput d i l⟩
  rw [curs_bput d i l]
  intro x hx
  rcases List.mem_or_eq_of_mem_set hx with h1 | h1
  · exact h.all64 x h1
  · rw [h1, hl]
theorem Good.sync {d : DS} {n : Nat} (h : Good d n) : d.sync.2 = 0 ∧ Good d.sync.1 n ∧ d.sync.1.curs = d.curs ∧ d.sync.1.pend = [] := by
  have hw : d.sync = ({ d with lasts := d.curs, pend := [] }, 0) := by
    unfold DS.sync
    rw [h.up, h.burn.1, h.burn.2, synced_curs]
    simp [h.up]
  have hc : DS.curs { d with lasts := d.curs, pend := [] } = d.curs := curs_none _ _ _
  rw [hw]
  exact ⟨rfl, ⟨h.up, h.free, by simp only; exact h.clen, by rw [hc]; exact h.all64⟩, hc, rfl⟩
theorem Good.tails {n base : Nat} {b : List UInt8} : ∀ (f k : Nat) {d : DS}, Good d n → base + k + f ≤ n → (∀ j, k ≤ j → j < k + f → (sectAt b j).length = 64) →
    (d.tails base b f k).2 = true ∧ Good (d.tails base b f k).1 n ∧ ∀ j, (d.tails base b f k).1.curs[j]? = if base + k ≤ j ∧ j < base + k + f then some (sectAt b (j - base)) else d.curs[j]?
  | 0, k, d, h, _, _ => ⟨rfl, h, fun j => by rw [if_neg (by omega)]; rfl⟩
  | f + 1, k, d, h, hn, hb => by
    obtain ⟨h1, h2, h3⟩ := h.write (base + k) (by omega) (sectAt b k) (hb k (by omega) (by omega))
    rw [d.tails_go base b f k h1]
    obtain ⟨h4, h5, h6⟩ := Good.tails (base := base) (b := b) f (k + 1) h2 (by omega) (fun j a c => hb j (by omega) (by omega))
    refine ⟨h4, h5, fun j => ?_⟩
    rw [h6 j, h3, List.getElem?_set, h.clen]
    by_cases hj : j = base + k
    · subst hj
      rw [if_neg (by omega), if_pos rfl, if_pos (by omega), if_pos (by omega)]
      congr 2; omega
    · by_cases hj2 : base + (k + 1) ≤ j ∧ j < base + (k + 1) + f
      · rw [if_pos hj2, if_pos (by omega)]
      · rw [if_neg hj2, if_neg (fun e => hj e.symm), if_neg (by omega)]
theorem Good.heads {n base m : Nat} {b : List UInt8} {d : DS} (h : Good d n) (hb : base < n) (h0 : (sectAt b 0).length = 64) :
    (d.heads base b m).2 = true ∧ Good (d.heads base b m).1 n ∧ (d.heads base b m).1.pend = [] ∧ (d.heads base b m).1.curs = d.curs.set base (sectAt b 0) := by
  obtain ⟨s1, s2, s3, s4⟩ := h.sync
  have hd1 : Good (if 1 < m then d.sync.1 else d) n ∧ (if 1 < m then d.sync.1 else d).curs = d.curs := by
    by_cases hm : 1 < m
    · rw [if_pos hm]; exact ⟨s2, s3⟩
    · rw [if_neg hm]; exact ⟨h, rfl⟩
  unfold DS.heads
  rw [if_neg (fun e => e.2 s1)]
  revert hd1
  generalize (if 1 < m then d.sync.1 else d) = d1
  rintro ⟨g1, g2⟩
  obtain ⟨w1, w2, w3⟩ := g1.write base hb (sectAt b 0) h0
  obtain ⟨t1, t2, t3, t4⟩ := w2.sync
  rw [if_neg (fun e => e w1)]
  exact ⟨by simp only; exact decide_eq_true t1, t2, t4, by rw [t3, w3, g2]⟩
/-- laying a frame's bytes on a disk without a fuse -/
theorem Good.lays {n base m : Nat} {b : List UInt8} {d : DS} (h : Good d n) (hm : 1 ≤ m) (hb : base + m ≤ n) (hl : b.length = 64 * m) :
    (d.lays base b m).2 = true ∧ Good (d.lays base b m).1 n ∧ (d.lays base b m).1.pend = [] ∧ ∀ j, (d.lays base b m).1.curs[j]? = if base ≤ j ∧ j < base + m then some (sectAt b (j - base)) else d.curs[j]? := by
  have h64 : ∀ j, j < m → (sectAt b j).length = 64 := fun j hj => by unfold sectAt; rw [List.length_take, List.length_drop, hl]; omega
  obtain ⟨t1, t2, t3⟩ := Good.tails (base := base) (b := b) (m - 1) 1 h (by omega) (fun j _ hj => h64 j (by omega))
  unfold DS.lays
  rw [if_pos t1]
  obtain ⟨u1, u2, u3, u4⟩ := t2.heads (m := m) (by omega : base < n) (h64 0 (by omega))
  refine ⟨u1, u2, u3, fun j => ?_⟩
  rw [u4, List.getElem?_set, t2.clen, t3 j]
  by_cases hj : j = base
  · subst hj
    rw [if_pos rfl, if_pos (by omega), if_pos (by omega), Nat.sub_self]
  · rw [if_neg (fun e => hj e.symm)]
    by_cases hj2 : base + 1 ≤ j ∧ j < base + 1 + (m - 1)
    · rw [if_pos hj2, if_pos (by omega)]
    · rw [if_neg hj2, if_neg (by omega)]
/-- the bytes of some sectors -/
def secs (c : List (List UInt8)) (base k : Nat) : List UInt8 := ((c.drop base).take k).flatten
theorem secs_split (c : List (List UInt8)) (base a k : Nat) : secs c base (a + k) = secs c base a ++ secs c (base + a) k := by
  unfold secs
  rw [List.take_add, List.flatten_append, List.drop_drop]
theorem secs_congr {c c' : List (List UInt8)} {base k : Nat} (h : ∀ j, base ≤ j → j < base + k → c'[j]? = c[j]?) : secs c' base k = secs c base k := by
  unfold secs
  congr 1
  apply List.ext_getElem?
  intro i
  rw [List.getElem?_take, List.getElem?_take, List.getElem?_drop, List.getElem?_drop]
  split
  · exact h _ (by omega) (by omega)
  · rfl
theorem secs_length {c : List (List UInt8)} (h : ∀ x ∈ c, x.length = 64) (base : Nat) : ∀ k, base + k ≤ c.length → (secs c base k).length = 64 * k
  | 0, _ => by simp [secs]
  | k + 1, hk => by
    rw [secs_split, List.length_append, secs_length h base k (by omega)]
    have e : secs c (base + k) 1 = c[base + k]'(by omega) := by
      unfold secs
      rw [List.drop_eq_getElem_cons (by omega), List.take_succ_cons, List.take_zero, List.flatten_cons, List.flatten_nil, List.append_nil]
    rw [e, h _ (List.getElem_mem _)]
    omega
theorem secs_drop {c : List (List UInt8)} (h : ∀ x ∈ c, x.length = 64) (base k p : Nat) (hk : base + k ≤ c.length) (hp : p ≤ k) : (secs c base k).drop (64 * p) = secs c (base + p) (k - p) := by
  obtain ⟨r, rfl⟩ : ∃ r, k = p + r := ⟨k - p, by omega⟩
  rw [secs_split, ← secs_length h base p (by omega), List.drop_left, show p + r - p = r by omega]
theorem secs_one (c : List (List UInt8)) (base : Nat) (x : List UInt8) (h : c[base]? = some x) : secs c base 1 = x := by
  have hb : base < c.length := by
    by_cases hb : base < c.length
    · exact hb
    · rw [List.getElem?_eq_none (by omega)] at h; cases h
  unfold secs
  rw [List.drop_eq_getElem_cons hb, List.take_succ_cons, List.take_zero, List.flatten_cons, List.flatten_nil, List.append_nil]
  rw [List.getElem?_eq_getElem hb] at h
  simpa using h
theorem secs_chunks (c : List (List UInt8)) (b : List UInt8) (base : Nat) : ∀ m, (∀ j, j < m → c[base + j]? = some (sectAt b j)) → secs c base m = b.take (64 * m)
  | 0, _ => by simp [secs]
  | m + 1, h => by
    rw [secs_split, secs_chunks c b base m (fun j hj => h j (by omega)), secs_one c (base + m) _ (h m (by omega)), sectAt, show 64 * (m + 1) = 64 * m + 64 by omega, List.take_add]
theorem sectorsAt_secs {d : DS} {n : Nat} (h : Good d n) (base : Nat) : ∀ k, base + k ≤ n → sectorsAt d base k = secs d.curs base k
  | 0, _ => by simp [sectorsAt, secs]
  | k + 1, hk => by
    rw [sectorsAt, sectorsAt_secs h base k (by omega), secs_split]
    congr 1
    have hs : d.sector ((base + k : Nat) : Int) = 0 := by unfold DS.sector; rw [h.up, h.len]; simp; omega
    have hb : base + k < d.curs.length := by rw [h.clen]; omega
    rw [read_cur, if_neg (fun e => e hs), secs_one d.curs (base + k) _ (List.getElem?_eq_getElem hb)]
    simp only [Int.toNat_natCast, List.getD_eq_getElem?_getD, List.getElem?_eq_getElem hb, Option.getD_some]
end Go.Proofs.YtjilbnpehgigjaaGreat

/- Package journal, plain: what lasts on a disk without a fuse. -/
import Derived.Test.YtjjcmdblohbneaaGreatJLays
import Derived.Test.YtjjcmdblohbneaaGreatJPlain
namespace Go.Proofs.YtjjcmdblohbneaaGreat
open Go.RowKit
/-- a disk that is not down and has no fuse; n sectors -/
structure Good (d : DS) (n : Nat) : Prop where
  up : d.down = false
  free : d.fuse = -1
  len : d.lasts.length = n
  all64 : ∀ x ∈ d.curs, x.length = 64
theorem Good.clen {d : DS} {n : Nat} (h : Good d n) : d.curs.length = n := by rw [curs_length, h.len]
theorem Good.burn {d : DS} {n : Nat} (h : Good d n) : d.burn = d ∧ d.holds = true := by
  unfold DS.burn DS.holds
  rw [h.free]
  exact ⟨rfl, rfl⟩
theorem Good.write {d : DS} {n : Nat} (h : Good d n) (i : Nat) (hi : i < n) (l : List UInt8) (hl : l.length = 64) :
    (d.write ((i : Nat) : Int) l).2 = 0 ∧ Good (d.write ((i : Nat) : Int) l).1 n ∧ (d.write ((i : Nat) : Int) l).1.curs = d.curs.set i l := by
  have hs : d.sector (i : Int) = 0 := by unfold DS.sector; rw [h.up, h.len]; simp; omega
  have hw : d.write ((i : Nat) : Int) l = ({ d with pend := bput d.pend (i : Int) l }, 0) := by
    unfold DS.write
    rw [hs, h.burn.1, h.burn.2]
    simp [hl]
  rw [hw]
  refine ⟨rfl, ⟨h.up, h.free, h.len, ?_⟩, curs_bput d i l⟩
  rw [curs_bput d i l]
  intro x hx
  rcases List.mem_or_eq_of_mem_set hx with h1 | h1
  · exact h.all64 x h1
  · rw [h1, hl]
theorem Good.sync {d : DS} {n : Nat} (h : Good d n) : d.sync.2 = 0 ∧ Good d.sync.1 n ∧ d.sync.1.curs = d.curs ∧ d.sync.1.pend = [] := by
  have hw : d.sync = ({ d with lasts := d.curs, pend := [] }, 0) := by
    unfold DS.sync
    rw [h.up, h.burn.1, h.burn.2, synced_curs]
    simp [h.up]
  have hc : DS.curs { d with lasts := d.curs, pend := [] } = d.curs := curs_none _ _ _
  rw [hw]
  exact ⟨rfl, ⟨h.up, h.free, by simp only; exact h.clen, by rw [hc]; exact h.all64⟩, hc, rfl⟩
theorem Good.tails {n base : Nat} {b : List UInt8} : ∀ (f k : Nat) {d : DS}, Good d n → base + k + f ≤ n → (∀ j, k ≤ j → j < k + f → (sectAt b j).length = 64) →
    (d.tails base b f k).2 = true ∧ Good (d.tails base b f k).1 n ∧ ∀ j, (d.tails base b f k).1.curs[j]? = if base + k ≤ j ∧ j < base + k + f then some (sectAt b (j - base)) else d.curs[j]?
  | 0, k, d, h, _, _ => ⟨rfl, h, fun j => by rw [if_neg (by omega)]; rfl⟩
  | f + 1, k, d, h, hn, hb => by
    obtain ⟨h1, h2, h3⟩ := h.write (base + k) (by omega) (sectAt b k) (hb k (by omega) (by omega))
    rw [d.tails_go base b f k h1]
    obtain ⟨h4, h5, h6⟩ := Good.tails (base := base) (b := b) f (k + 1) h2 (by omega) (fun j a c => hb j (by omega) (by omega))
    refine ⟨h4, h5, fun j => ?_⟩
    rw [h6 j, h3, List.getElem?_set, h.clen]
    by_cases hj : j = base + k
    · subst hj
      rw [if_neg (by omega), if_pos rfl, if_pos (by omega), if_pos (by omega)]
      congr 2; omega
    · by_cases hj2 : base + (k + 1) ≤ j ∧ j < base + (k + 1) + f
      · rw [if_pos hj2, if_pos (by omega)]
      · rw [if_neg hj2, if_neg (fun e => hj e.symm), if_neg (by omega)]
theorem Good.heads {n base m : Nat} {b : List UInt8} {d : DS} (h : Good d n) (hb : base < n) (h0 : (sectAt b 0).length = 64) :
    (d.heads base b m).2 = true ∧ Good (d.heads base b m).1 n ∧ (d.heads base b m).1.pend = [] ∧ (d.heads base b m).1.curs = d.curs.set base (sectAt b 0) := by
  obtain ⟨s1, s2, s3, s4⟩ := h.sync
  have hd1 : Good (if 1 < m then d.sync.1 else d) n ∧ (if 1 < m then d.sync.1 else d).curs = d.curs := by
    by_cases hm : 1 < m
    · rw [if_pos hm]; exact ⟨s2, s3⟩
    · rw [if_neg hm]; exact ⟨h, rfl⟩
  unfold DS.heads
  rw [if_neg (fun e => e.2 s1)]
  revert hd1
  generalize (if 1 < m then d.sync.1 else d) = d1
  rintro ⟨g1, g2⟩
  obtain ⟨w1, w2, w3⟩ := g1.write base hb (sectAt b 0) h0
  obtain ⟨t1, t2, t3, t4⟩ := w2.sync
  rw [if_neg (fun e => e w1)]
  exact ⟨by simp only; exact decide_eq_true t1, t2, t4, by rw [t3, w3, g2]⟩
/-- laying a frame's bytes on a disk without a fuse -/
theorem Good.lays {n base m : Nat} {b : List UInt8} {d : DS} (h : Good d n) (hm : 1 ≤ m) (hb : base + m ≤ n) (hl : b.length = 64 * m) :
    (d.lays base b m).2 = true ∧ Good (d.lays base b m).1 n ∧ (d.lays base b m).1.pend = [] ∧ ∀ j, (d.lays base b m).1.curs[j]? = if base ≤ j ∧ j < base + m then some (sectAt b (j - base)) else d.curs[j]? := by
  have h64 : ∀ j, j < m → (sectAt b j).length = 64 := fun j hj => by unfold sectAt; rw [List.length_take, List.length_drop, hl]; omega
  obtain ⟨t1, t2, t3⟩ := Good.tails (base := base) (b := b) (m - 1) 1 h (by omega) (fun j _ hj => h64 j (by omega))
  unfold DS.lays
  rw [if_pos t1]
  obtain ⟨u1, u2, u3, u4⟩ := t2.heads (m := m) (by omega : base < n) (h64 0 (by omega))
  refine ⟨u1, u2, u3, fun j => ?_⟩
  rw [u4, List.getElem?_set, t2.clen, t3 j]
  by_cases hj : j = base
  · subst hj
    rw [if_pos rfl, if_pos (by omega), if_pos (by omega), Nat.sub_self]
  · rw [if_neg (fun e => hj e.symm)]
    by_cases hj2 : base + 1 ≤ j ∧ j < base + 1 + (m - 1)
    · rw [if_pos hj2, if_pos (by omega)]
    · rw [if_neg hj2, if_neg (by omega)]
/-- the bytes of some sectors -/
def secs (c : List (List UInt8)) (base k : Nat) : List UInt8 := ((c.drop base).take k).flatten
theorem secs_split (c : List (List UInt8)) (base a k : Nat) : secs c base (a + k) = secs c base a ++ secs c (base + a) k := by
  unfold secs
  rw [List.take_add, List.flatten_append, List.drop_drop]
theorem secs_congr {c c' : List (List UInt8)} {base k : Nat} (h : ∀ j, base ≤ j → j < base + k → c'[j]? = c[j]?) : secs c' base k = secs c base k := by
  unfold secs
  congr 1
  apply List.ext_getElem?
  intro i
  rw [List.getElem?_take, List.getElem?_take, List.getElem?_drop, List.getElem?_drop]
  split
  · exact h _ (by omega) (by omega)
  · rfl
theorem secs_length {c : List (List UInt8)} (h : ∀ x ∈ c, x.length = 64) (base : Nat) : ∀ k, base + k ≤ c.length → (secs c base k).length = 64 * k
  | 0, _ => by simp [secs]
  | k + 1, hk => by
    rw [secs_split, List.length_append, secs_length h base k (by omega)]
    have e : secs c (base + k) 1 = c[base + k]'(by omega) := by
      unfold secs
      rw [List.drop_eq_getElem_cons (by omega), List.take_succ_cons, List.take_zero, List.flatten_cons, List.flatten_nil, List.append_nil]
    rw [e, h _ (List.getElem_mem _)]
    omega
theorem secs_drop {c : List (List UInt8)} (h : ∀ x ∈ c, x.length = 64) (base k p : Nat) (hk : base + k ≤ c.length) (hp : p ≤ k) : (secs c base k).drop (64 * p) = secs c (base + p) (k - p) := by
  obtain ⟨r, rfl⟩ : ∃ r, k = p + r := ⟨k - p, by omega⟩
  rw [secs_split, ← secs_length h base p (by omega), List.drop_left, show p + r - p = r by omega]
theorem secs_one (c : List (List UInt8)) (base : Nat) (x : List UInt8) (h : c[base]? = some x) : secs c base 1 = x := by
  have hb : base < c.length := by
    by_cases hb : base < c.length
    · exact hb
    · rw [List.getElem?_eq_none (by omega)] at h; cases h
  unfold secs
  rw [List.drop_eq_getElem_cons hb, List.take_succ_cons, List.take_zero, List.flatten_cons, List.flatten_nil, List.append_nil]
  rw [List.getElem?_eq_getElem hb] at h
  simpa using h
theorem secs_chunks (c : List (List UInt8)) (b : List UInt8) (base : Nat) : ∀ m, (∀ j, j < m → c[base + j]? = some (sectAt b j)) → secs c base m = b.take (64 * m)
  | 0, _ => by simp [secs]
  | m + 1, h => by
    rw [secs_split, secs_chunks c b base m (fun j hj => h j (by omega)), secs_one c (base + m) _ (h m (by omega)), sectAt, show 64 * (m + 1) = 64 * m + 64 by omega, List.take_add]
theorem sectorsAt_secs {d : DS} {n : Nat} (h : Good d n) (base : Nat) : ∀ k, base + k ≤ n → sectorsAt d base k = secs d.curs base k
  | 0, _ => by simp [sectorsAt, secs]
  | k + 1, hk => by
    rw [sectorsAt, sectorsAt_secs h base k (by omega), secs_split]
    congr 1
    have hs : d.sector ((base + k : Nat) : Int) = 0 := by unfold DS.sector; rw [h.up, h.len]; simp; omega
    have hb : base + k < d.curs.length := by rw [h.clen]; omega
    rw [read_cur, if_neg (fun e => e hs), secs_one d.curs (base + k) _ (List.getElem?_eq_getElem hb)]
    simp only [Int.toNat_natCast, List.getD_eq_getElem?_getD, List.getElem?_eq_getElem hb, Option.getD_some]
end Go.Proofs.YtjjcmdblohbneaaGreat

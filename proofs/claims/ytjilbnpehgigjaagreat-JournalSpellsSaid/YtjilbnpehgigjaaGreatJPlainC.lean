/- Package journal, plain: what lasts on a disk without a fuse. -/
import Derived.Test.YtjilbnpehgigjaaGreatJLays
import Derived.Test.YtjilbnpehgigjaaGreatJPlain
import Derived.Test.YtjilbnpehgigjaaGreatJAppend
namespace Go.Proofs.YtjilbnpehgigjaaGreat
open Go.RowKit
/-- a disk that is not down and has no fuse; n sectors -/
structure Good (d : DS) (n : Nat) : Prop where
  up : d.down = false
  free : d.fuse = -1
  len : d.lasts.length = n
  all64 : ∀ x ∈ d.curs, x.length = 64
theorem Good.clen {d : DS} {n : Nat} (h : Good d n) : d.curs.length = n := by rw [curs_length, h.len]
theorem Good.burn {d : DS} {n : Nat} (h : Good d n) : d.burn = d ∧ d.holds = true := by
  unfold DS.burn DS.holds
  rw [h.free]
  exact ⟨rfl, rfl⟩
theorem Good.write {d : DS} {n : Nat} (h : Good d n) (i : Nat) (hi : i < n) (l : List UInt8) (hl : l.length = 64) :
    (d.write ((i : Nat) : Int) l).2 = 0 ∧ Good (d.write ((i : Nat) : Int) l).1 n ∧ (d.write ((i : Nat) : Int) l).1.curs = d.curs.set i l := by
  have hs : d.sector (i : Int) = 0 := by unfold DS.sector; rw [h.up, h.len]; simp; omega
  have hw : d.write ((i : Nat) : Int) l = ({ d with pend := bput d.pend (i : Int) l }, 0) := by
    unfold DS.write
    rw [hs, h.burn.1, h.burn.2]
    simp [hl]
  rw [hw]
  refine ⟨rfl, ⟨h.up, h.free, h.len, ?_⟩, curs_bput d i l⟩
  rw [curs_bput d i l]
  intro x hx
  rcases List.mem_or_eq_of_mem_set hx with h1 | h1
  · exact h.all64 x h1
  · rw [h1, hl]
theorem Good.sync {d : DS} {n : Nat} (h : Good d n) : d.sync.2 = 0 ∧ Good d.sync.1 n ∧ d.sync.1.curs = d.curs ∧ d.sync.1.pend = [] := by
  have hw : d.sync = ({ d with lasts := d.curs, pend := [] }, 0) := by
    unfold DS.sync
    rw [h.up, h.burn.1, h.burn.2, synced_curs]
    simp [h.up]
  have hc : DS.curs { d with lasts := d.curs, pend := [] } = d.curs := curs_none _ _ _
  rw [hw]
  exact ⟨rfl, ⟨h.up, h.free, by simp only; exact h.clen, by rw [hc]; exact h.all64⟩, hc, rfl⟩
theorem Good.tails {n base : Nat} {b : List UInt8} : ∀ (f k : Nat) {d : DS}, Good d n → base + k + f ≤ n → (∀ j, k ≤ j → j < k + f → (sectAt b j).length = 64) →
    (d.tails base b f k).2 = true ∧ Good (d.tails base b f k).1 n ∧ ∀ j, (d.tails base b f k).1.curs[j]? = if base + k ≤ j ∧ j < base + k + f then some (sectAt b (j - base)) else d.curs[j]?
  | 0, k, d, h, _, _ => ⟨rfl, h, fun j => by rw [if_neg (by omega)]; rfl⟩
  | f + 1, k, d, h, hn, hb => by
    obtain ⟨h1, h2, h3⟩ := h.write (base + k) (by omega) (sectAt b k) (hb k (by omega) (by omega))
    rw [d.tails_go base b f k h1]
    obtain ⟨h4, h5, h6⟩ := Good.tails (base := base) (b := b) f (k + 1) h2 (by omega) (fun j a c => hb j (by omega) (by omega))
    refine ⟨h4, h5, fun j => ?_⟩
    rw [h6 j, h3, List.getElem?_set, h.clen]
    by_cases hj : j = base + k
    · subst hj
      rw [if_neg (by omega), if_pos rfl, if_pos (by omega), if_pos (by omega)]
      congr 2; omega
    · by_cases hj2 : base + (k + 1) ≤ j ∧ j < base + (k + 1) + f
      · rw [if_pos hj2, if_pos (by omega)]
      · rw [if_neg hj2, if_neg (fun e => hj e.symm), if_neg (by omega)]
theorem Good.heads {n base m : Nat} {b : List UInt8} {d : DS} (h : Good d n) (hb : base < n) (h0 : (sectAt b 0).length = 64) :
    (d.heads base b m).2 = true ∧ Good (d.heads base b m).1 n ∧ (d.heads base b m).1.pend = [] ∧ (d.heads base b m).1.curs = d.curs.set base (sectAt b 0) := by
  obtain ⟨s1, s2, s3, s4⟩ := h.sync
  have hd1 : Good (if 1 < m then d.sync.1 else d) n ∧ (if 1 < m then d.sync.1 else d).curs = d.curs := by
    by_cases hm : 1 < m
    · rw [if_pos hm]; exact ⟨s2, s3⟩
    · rw [if_neg hm]; exact ⟨h, rfl⟩
  unfold DS.heads
  rw [if_neg (fun e => e.2 s1)]
  revert hd1
  generalize (if 1 < m then d.sync.1 else d) = d1
  rintro ⟨g1, g2⟩
  obtain ⟨w1, w2, w3⟩ := g1.write base hb (sectAt b 0) h0
  obtain ⟨t1, t2, t3, t4⟩ := w2.sync
  rw [if_neg (fun e => e w1)]
  exact ⟨by simp only; exact decide_eq_true t1, t2, t4, by rw [t3, w3, g2]⟩
/-- laying a frame's bytes on a disk without a fuse -/
theorem Good.lays {n base m : Nat} {b : List UInt8} {d : DS} (h : Good d n) (hm : 1 ≤ m) (hb : base + m ≤ n) (hl : b.length = 64 * m) :
    (d.lays base b m).2 = true ∧ Good (d.lays base b m).1 n ∧ (d.lays base b m).1.pend = [] ∧ ∀ j, (d.lays base b m).1.curs[j]? = if base ≤ j ∧ j < base + m then some (sectAt b (j - base)) else d.curs[j]? := by
  have h64 : ∀ j, j < m → (sectAt b j).length = 64 := fun j hj => by unfold sectAt; rw [List.length_take, List.length_drop, hl]; omega
  obtain ⟨t1, t2, t3⟩ := Good.tails (base := base) (b := b) (m - 1) 1 h (by omega) (fun j _ hj => h64 j (by omega))
  unfold DS.lays
  rw [if_pos t1]
  obtain ⟨u1, u2, u3, u4⟩ := t2.heads (m := m) (by omega : base < n) (h64 0 (by omega))
  refine ⟨u1, u2, u3, fun j => ?_⟩
  rw [u4, List.getElem?_set, t2.clen, t3 j]
  by_cases hj : j = base
  · subst hj
    rw [if_pos rfl, if_pos (by omega), if_pos (by omega), Nat.sub_self]
  · rw [if_neg (fun e => hj e.symm)]
    by_cases hj2 : base + 1 ≤ j ∧ j < base + 1 + (m - 1)
    · rw [if_pos hj2, if_pos (by omega)]
    · rw [if_neg hj2, if_neg (by omega)]
/-- the bytes of some sectors -/
def secs (c : List (List UInt8)) (base k : Nat) : List UInt8 := ((c.drop base).take k).flatten
theorem secs_split (c : List (List UInt8)) (base a k : Nat) : secs c base (a + k) = secs c base a ++ secs c (base + a) k := by
  unfold secs
  rw [List.take_add, List.flatten_append, List.drop_drop]
theorem secs_congr {c c' : List (List UInt8)} {base k : Nat} (h : ∀ j, base ≤ j → j < base + k → c'[j]? = c[j]?) : secs c' base k = secs c base k := by
  unfold secs
  congr 1
  apply List.ext_getElem?
  intro i
  rw [List.getElem?_take, List.getElem?_take, List.getElem?_drop, List.getElem?_drop]
  split
  · exact h _ (by omega) (by omega)
  · rfl
theorem secs_length {c : List (List UInt8)} (h : ∀ x ∈ c, x.length = 64) (base : Nat) : ∀ k, base + k ≤ c.length → (secs c base k).length = 64 * k
  | 0, _ => by simp [secs]
  | k + 1, hk => by
    rw [secs_split, List.length_append, secs_length h base k (by omega)]
    have e : secs c (base + k) 1 = c[base + k]'(by omega) := by
      unfold secs
      rw [List.drop_eq_getElem_cons (by omega), List.take_succ_cons, List.take_zero, List.flatten_cons, List.flatten_nil, List.append_nil]
    rw [e, h _ (List.getElem_mem _)]
    omega
theorem secs_drop {c : List (List UInt8)} (h : ∀ x ∈ c, x.length = 64) (base k p : Nat) (hk : base + k ≤ c.length) (hp : p ≤ k) : (secs c base k).drop (64 * p) = secs c (base + p) (k - p) := by
  obtain ⟨r, rfl⟩ : ∃ r, k = p + r := ⟨k - p, by omega⟩
  rw [secs_split, ← secs_length h base p (by omega), List.drop_left, show p + r - p = r by omega]
theorem secs_one (c : List (List UInt8)) (base : Nat) (x : List UInt8) (h : c[base]? = some x) : secs c base 1 = x := by
  have hb : base < c.length := by
    by_cases hb : base < c.length
    · exact hb
    · rw [List.getElem?_eq_none (by omega)] at h; cases h
  unfold secs
  rw [List.drop_eq_getElem_cons hb, List.take_succ_cons, List.take_zero, List.flatten_cons, List.flatten_nil, List.append_nil]
  rw [List.getElem?_eq_getElem hb] at h
  simpa using h
theorem secs_chunks (c : List (List UInt8)) (b : List UInt8) (base : Nat) : ∀ m, (∀ j, j < m → c[base + j]? = some (sectAt b j)) → secs c base m = b.take (64 * m)
  | 0, _ => by simp [secs]
  | m + 1, h => by
    rw [secs_split, secs_chunks c b base m (fun j hj => h j (by omega)), secs_one c (base + m) _ (h m (by omega)), sectAt, show 64 * (m + 1) = 64 * m + 64 by omega, List.take_add]
theorem sectorsAt_secs {d : DS} {n : Nat} (h : Good d n) (base : Nat) : ∀ k, base + k ≤ n → sectorsAt d base k = secs d.curs base k
  | 0, _ => by simp [sectorsAt, secs]
  | k + 1, hk => by
    rw [sectorsAt, sectorsAt_secs h base k (by omega), secs_split]
    congr 1
    have hs : d.sector ((base + k : Nat) : Int) = 0 := by unfold DS.sector; rw [h.up, h.len]; simp; omega
    have hb : base + k < d.curs.length := by rw [h.clen]; omega
    rw [read_cur, if_neg (fun e => e hs), secs_one d.curs (base + k) _ (List.getElem?_eq_getElem hb)]
    simp only [Int.toNat_natCast, List.getD_eq_getElem?_getD, List.getElem?_eq_getElem hb, Option.getD_some]
end Go.Proofs.YtjilbnpehgigjaaGreat

/- Package journal: what Open finds. -/
namespace Go.Proofs.YtjilbnpehgigjaaGreat
open Go.RowKit
def JS.fresh (d : DS) : JS := ⟨d.down, false, 0, 0, 0, [], []⟩
def halfOf (d : DS) (h : Nat) : List UInt8 := sectorsAt d (h * (d.lasts.length / 2)) (d.lasts.length / 2)
def DS.looks (d : DS) : JS := ((JS.fresh d).takes 0 (halfOf d 0)).takes 1 (halfOf d 1)
def DS.opens (d : DS) : JS := if d.down = true then JS.fresh d else d.looks.follows (halfOf d d.looks.half)
theorem JS.takes_recs (s : JS) (h : Nat) (b : List UInt8) : (s.takes h b).recs = s.recs := by
  unfold JS.takes
  repeat' split
  all_goals rfl
theorem JS.takes_down (s : JS) (h : Nat) (b : List UInt8) : (s.takes h b).down = s.down := by
  unfold JS.takes
  repeat' split
  all_goals rfl
theorem JS.takes_cases (s : JS) (h : Nat) (b : List UInt8) : s.takes h b = s ∨ ((s.takes h b).half = h ∧ 64 * (s.takes h b).at_ ≤ b.length) := by
  unfold JS.takes
  split
  · exact .inl rfl
  · rename_i k g q body hg
    split
    · exact .inr ⟨rfl, (getF_fits b k g q body hg).1⟩
    · exact .inl rfl
theorem followsN_lim (b : List UInt8) (gen : Nat) : ∀ (f a : Nat) (rs : List (List UInt8)), 64 * a ≤ b.length → rs.length ≤ a → 64 * (followsN b gen f a rs).1 ≤ b.length ∧ (followsN b gen f a rs).2.length ≤ (followsN b gen f a rs).1
  | 0, a, rs, h1, h2 => ⟨h1, h2⟩
  | f + 1, a, rs, h1, h2 => by
    cases hg : getF (b.drop (64 * a)) with
    | none => rw [followsN_none b gen f a rs hg]; exact ⟨h1, h2⟩
    | some x =>
      obtain ⟨k, g, q, body⟩ := x
      by_cases hc : k = 2 ∧ g = gen ∧ q = rs.length + 1
      · rw [followsN_go b gen f a rs k g q body hg hc]
        have hfit := getF_fits _ k g q body hg
        rw [List.length_drop] at hfit
        refine followsN_lim b gen f _ _ (by omega) ?_
        rw [List.length_append]
        simp only [List.length_cons, List.length_nil]
        omega
      · rw [followsN_stop b gen f a rs k g q body hg hc]; exact ⟨h1, h2⟩
theorem DS.looks_lim (d : DS) (hh : ∀ h, h ≤ 1 → (halfOf d h).length = 64 * (d.lasts.length / 2)) : d.looks.half ≤ 1 ∧ d.looks.at_ ≤ d.lasts.length / 2 ∧ d.looks.recs = [] ∧ d.looks.down = d.down := by
  have h0 := hh 0 (by omega)
  have h1 := hh 1 (by omega)
  refine ⟨?_, ?_, ?_, ?_⟩
  · unfold DS.looks
    rcases ((JS.fresh d).takes 0 (halfOf d 0)).takes_cases 1 (halfOf d 1) with e | e
    · rw [e]
      rcases (JS.fresh d).takes_cases 0 (halfOf d 0) with e | e
      · rw [e]; exact Nat.zero_le _
      · rw [e.1]; exact Nat.zero_le _
    · rw [e.1]; exact Nat.le_refl _
  · unfold DS.looks
    rcases ((JS.fresh d).takes 0 (halfOf d 0)).takes_cases 1 (halfOf d 1) with e | e
    · rw [e]
      rcases (JS.fresh d).takes_cases 0 (halfOf d 0) with e | e
      · rw [e]; exact Nat.zero_le _
      · have := e.2; omega
    · have := e.2; omega
  · unfold DS.looks; rw [JS.takes_recs, JS.takes_recs]; rfl
  · unfold DS.looks; rw [JS.takes_down, JS.takes_down]; rfl
/-- a disk and the table: all of their blocks -/
def IsDT (F : Nat → Prop) (w : World) (tb db bl bm : Nat) (d : DS) : Prop := IsTab w tb ∧ ∃ C, IsDisk w db bl bm C d ∧ ∀ k, foot db bl bm C k → F k ∧ k ≠ tb ∧ k < w.heap.size
theorem IsJD.dt {F : Nat → Prop} {w : World} {jb tb db bl bm : Nat} {s : JS} {d : DS} (h : IsJD F w jb tb db bl bm s d) : IsDT F w tb db bl bm d := by
  obtain ⟨S, C, h1, h2, h3, h4⟩ := h.ex
  exact ⟨h.tab, C, h2, fun k hk => h4 k (.inr hk)⟩
end Go.Proofs.YtjilbnpehgigjaaGreat

/- Package journal, plain: a journal over a disk without a fuse; what Open reads of it again. -/
namespace Go.Proofs.YtjilbnpehgigjaaGreat
open Go.RowKit
/-- no frame of this number or a higher one -/
def noF (G : Nat) (b : List UInt8) : Prop := ∀ k g q body, getF b = some (k, g, q, body) → g < G
theorem noF.mono {G H : Nat} {b : List UInt8} (h : noF G b) (hG : G ≤ H) : noF H b := fun k g q body e => Nat.lt_of_lt_of_le (h k g q body e) hG
theorem noF_none {G : Nat} {b : List UInt8} (h : getF b = none) : noF G b := fun k g q body e => by rw [h] at e; cases e
/-- the records' frames -/
def recsImg (g : Nat) : Nat → List (List UInt8) → List UInt8
  | _, [] => []
  | q, r :: l => putF 2 g q r ++ recsImg g (q + 1) l
def recsSize : List (List UInt8) → Nat
  | [] => 0
  | r :: l => sectorsF r.length + recsSize l
theorem recsImg_length (g : Nat) : ∀ (l : List (List UInt8)) (q : Nat), (recsImg g q l).length = 64 * recsSize l
  | [], _ => rfl
  | r :: l, q => by rw [recsImg, List.length_append, putF_length, recsImg_length g l (q + 1), recsSize]; omega
theorem recsImg_snoc (g : Nat) (r : List UInt8) : ∀ (l : List (List UInt8)) (q : Nat), recsImg g q (l ++ [r]) = recsImg g q l ++ putF 2 g (q + l.length) r
  | [], q => by simp [recsImg]
  | a :: l, q => by
    rw [List.cons_append, recsImg, recsImg_snoc g r l (q + 1), recsImg, List.append_assoc, List.length_cons, show q + 1 + l.length = q + (l.length + 1) by omega]
theorem recsSize_snoc (r : List UInt8) : ∀ l : List (List UInt8), recsSize (l ++ [r]) = recsSize l + sectorsF r.length
  | [] => by simp [recsSize]
  | a :: l => by rw [List.cons_append, recsSize, recsSize_snoc r l, recsSize]; omega
theorem recsSize_len : ∀ l : List (List UInt8), l.length ≤ recsSize l
  | [] => Nat.le_refl _
  | a :: l => by rw [recsSize, List.length_cons]; have := recsSize_len l; have := sectorsF_pos a.length; omega
/-- what lies in the journal's half up to its next sector -/
def JS.img (s : JS) : List UInt8 := (if s.has = true then putF 1 s.gen 0 s.pict else []) ++ recsImg s.gen 1 s.recs
def JS.head (s : JS) : Nat := if s.has = true then sectorsF s.pict.length else 0
structure PI (c : List (List UInt8)) (N : Nat) (s : JS) : Prop where
  up : s.down = false
  lim : s.Lim N
  gen0 : s.has = false → s.gen = 0 ∧ s.half = 0 ∧ s.pict = []
  bod : s.pict.length ≤ 60000 ∧ ∀ r ∈ s.recs, r.length ≤ 60000
  at_ : s.at_ = s.head + recsSize s.recs
  room : 2 * N ≤ c.length ∧ N ≤ 4096
  all64 : ∀ x ∈ c, x.length = 64
  img : secs c (s.half * N) s.at_ = s.img
  own1 : ∀ p, p < N → noF (s.gen + 1) (secs c (s.half * N + p) (N - p))
  own2 : ∀ p, s.at_ ≤ p → p < N → noF s.gen (secs c (s.half * N + p) (N - p))
  oth : ∀ p, p < N → noF s.gen (secs c ((1 - s.half) * N + p) (N - p))
/-- what is found in a half behind a frame that was laid over some sectors of it -/
theorem over_ok {c c' : List (List UInt8)} {N H at_ m k g q : Nat} {body : List UInt8} (hm : m = sectorsF body.length) (hat : at_ + m ≤ N) (hN : H + N ≤ c.length) (hN' : H + N ≤ c'.length) (h64 : ∀ x ∈ c, x.length = 64) (h64' : ∀ x ∈ c', x.length = 64)
    (hc : ∀ j, c'[j]? = if H + at_ ≤ j ∧ j < H + at_ + m then some (sectAt (putF k g q body) (j - (H + at_))) else c[j]?) :
    secs c' (H + at_) m = putF k g q body ∧ (∀ p, p < at_ → ∀ G, noF G (secs c (H + p) (N - p)) → noF G (secs c' (H + p) (N - p))) ∧
    (∀ p, at_ < p → p < at_ + m → ∀ G, noF G (secs c' (H + p) (N - p))) ∧ (∀ p, at_ + m ≤ p → p < N → secs c' (H + p) (N - p) = secs c (H + p) (N - p)) := by
  have hpl := putF_length k g q body
  have e1 : secs c' (H + at_) m = putF k g q body := by
    rw [secs_chunks c' (putF k g q body) (H + at_) m (fun j hj => by rw [hc, if_pos ⟨by omega, by omega⟩]; congr 2; omega), List.take_of_length_le (by rw [hpl, hm]; exact Nat.le_refl _)]
  have e2 : ∀ j, j < m → ∀ x, (secs c' (H + at_) (N - at_))[64 * j]? = some x → x = markF j := by
    intro j hj x hx
    have : secs c' (H + at_) (N - at_) = putF k g q body ++ secs c' (H + at_ + m) (N - at_ - m) := by
      rw [← e1, ← secs_split]; congr 1; omega
    rw [this, putF_mark k g q body _ j (by omega)] at hx
    exact (Option.some.inj hx).symm
  refine ⟨e1, fun p hp G h => ?_, fun p h1 h2 G => ?_, fun p h1 h2 => ?_⟩
  · intro k' g' q' b' hg
    have hsp : ∀ C : List (List UInt8), secs C (H + p) (N - p) = secs C (H + p) (at_ - p) ++ secs C (H + at_) (N - at_) := fun C => by
      rw [show N - p = (at_ - p) + (N - at_) by omega, secs_split]; congr 2; omega
    have hl : ∀ C : List (List UInt8), (∀ x ∈ C, x.length = 64) → H + N ≤ C.length → (secs C (H + p) (at_ - p)).length = 64 * (at_ - p) := fun C hC hN => secs_length hC _ _ (by omega)
    have hend := getF_ends (m := at_ - p) hg (by omega) (by
      rw [hsp c', List.getElem?_append_right (by rw [hl c' h64' hN']; exact Nat.le_refl _), hl c' h64' hN', Nat.sub_self]
      intro e
      have := e2 0 (by have := sectorsF_pos body.length; omega) 2 (by simpa using e)
      exact absurd this (by decide))
    refine h k' g' q' b' (getF_pre hg hend ?_)
    rw [hsp c', hsp c, ← hl c' h64' hN', List.take_left, hl c' h64' hN', ← hl c h64 hN, List.take_left]
    exact secs_congr (fun j h1 h2 => by rw [hc, if_neg (by omega)])
  · refine noF_none (getF_mark0 ?_)
    intro e
    have hd : secs c' (H + p) (N - p) = (secs c' (H + at_) (N - at_)).drop (64 * (p - at_)) := by
      rw [secs_drop h64' _ _ _ (by omega) (by omega)]; congr 1 <;> omega
    rw [hd, List.getElem?_drop, Nat.add_zero] at e
    have := e2 (p - at_) (by omega) 1 e
    unfold markF at this
    rw [if_neg (by omega)] at this
    exact absurd this (by decide)
  · exact secs_congr (fun j h1 h2 => by rw [hc, if_neg (by omega)])
theorem followsN_img (b : List UInt8) (g N : Nat) (hN : b.length = 64 * N) (hg : g ≤ 4294967295) : ∀ (l : List (List UInt8)) (f a : Nat) (rs : List (List UInt8)) (rest : List UInt8), l.length < f → b.drop (64 * a) = recsImg g (rs.length + 1) l ++ rest →
    (∀ r ∈ l, r.length ≤ 60000) → rs.length + l.length ≤ 4294967294 → noF g rest → followsN b g f a rs = (a + recsSize l, rs ++ l)
  | [], f + 1, a, rs, rest, _, hd, _, _, hno => by
    have hd' : b.drop (64 * a) = rest := by simpa [recsImg] using hd
    rw [recsSize, List.append_nil, show a + 0 = a from rfl]
    cases hg : getF (b.drop (64 * a)) with
    | none => rw [followsN_none b g f a rs hg]
    | some x =>
      obtain ⟨k, g', q, body⟩ := x
      have := hno k g' q body (by rw [← hd']; exact hg)
      rw [followsN_stop b g f a rs k g' q body hg (by omega)]
  | r :: l, f + 1, a, rs, rest, hf, hd, hb, hq, hno => by
    rw [recsImg, List.append_assoc] at hd
    rw [List.length_cons] at hf hq
    have hr := hb r (List.mem_cons_self ..)
    have hgf : getF (b.drop (64 * a)) = some (2, g, rs.length + 1, r) := by rw [hd]; exact getF_putF 2 g _ r _ (by omega) hg (by omega) hr
    rw [followsN_go b g f a rs 2 g (rs.length + 1) r hgf ⟨rfl, rfl, rfl⟩]
    have hd2 : b.drop (64 * (a + sectorsF r.length)) = recsImg g ((rs ++ [r]).length + 1) l ++ rest := by
      rw [show 64 * (a + sectorsF r.length) = 64 * a + 64 * sectorsF r.length by omega, ← List.drop_drop, hd, ← putF_length 2 g (rs.length + 1) r, List.drop_left, List.length_append]
      rfl
    rw [followsN_img b g N hN hg l f _ (rs ++ [r]) rest (by omega) hd2 (fun x hx => hb x (List.mem_cons_of_mem _ hx)) (by rw [List.length_append, List.length_singleton]; omega) hno]
    rw [recsSize, List.append_assoc]
    simp only [List.singleton_append, Prod.mk.injEq, and_true]
    omega
end Go.Proofs.YtjilbnpehgigjaaGreat

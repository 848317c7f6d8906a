/- A journal of records alone (no picture), plain: whatever fuse, behind a crash what was told is there. -/
import Derived.Test.YtjilbnpehgigjaaGreatJFuse
import Derived.Test.YtjilbnpehgigjaaGreatJPlainD
namespace Go.Proofs.YtjilbnpehgigjaaGreat
open Go.RowKit
/-- sectors c: a journal of records in the first half; no other sector bears the mark of a frame's beginning -/
structure PL (c : List (List UInt8)) (N : Nat) (s : JS) : Prop where
  st : s = ⟨false, false, 0, 0, s.at_, [], s.recs⟩
  at_ : s.at_ = recsSize s.recs
  le : s.at_ ≤ N
  room : 2 * N ≤ c.length ∧ N ≤ 4096
  all64 : ∀ x ∈ c, x.length = 64
  bod : ∀ r ∈ s.recs, r.length ≤ 60000
  img : secs c 0 s.at_ = recsImg 0 1 s.recs
  marks : ∀ (j : Nat) x, s.at_ ≤ j → c[j]? = some x → x[0]? ≠ some 1
theorem secs_head {c : List (List UInt8)} {base k : Nat} {x : List UInt8} (h : c[base]? = some x) (hx : x.length = 64) (hk : 0 < k) : (secs c base k)[0]? = x[0]? := by
  obtain ⟨r, rfl⟩ : ∃ r, k = 1 + r := ⟨k - 1, by omega⟩
  rw [secs_split, secs_one c base x h, List.getElem?_append_left (by omega)]
theorem PL.noFrame {c : List (List UInt8)} {N : Nat} {s : JS} (h : PL c N s) (p k : Nat) (hp : s.at_ ≤ p) (hk : p + k ≤ c.length) : getF (secs c p k) = none := by
  apply getF_mark0
  rcases Nat.eq_zero_or_pos k with h0 | h0
  · subst h0; simp [secs]
  · have hx : c[p]? = some c[p] := List.getElem?_eq_getElem (by omega)
    rw [secs_head hx (h.all64 _ (List.getElem_mem _)) h0]
    exact h.marks p _ hp hx
theorem PL.fresh (n N : Nat) (hN : n / 2 = N) (hn : n ≤ 8192) : PL (freshDisk n).lasts N (JS.fresh (freshDisk n)) :=
  ⟨rfl, rfl, Nat.zero_le _, ⟨by simp [freshDisk]; omega, by omega⟩, fun x hx => by simp [freshDisk] at hx; rw [hx.2]; simp [zeros64], fun r hr => by simp [JS.fresh] at hr, by simp [JS.fresh, secs, recsImg], fun j x _ hx => by
    have hm := List.mem_of_getElem? hx
    simp [freshDisk] at hm
    rw [hm.2]; simp [zeros64]⟩
theorem PL.opens {d : DS} {n N : Nat} {s : JS} (hg : Good d n) (hN : n / 2 = N) (h : PL d.curs N s) : d.opens = s := by
  obtain ⟨dn, ha, hf, gn, at_, pc, rs⟩ := s
  have hst := h.st
  simp only [JS.mk.injEq, true_and, and_true] at hst
  obtain ⟨rfl, rfl, rfl, rfl, rfl⟩ := hst
  have hn2 : 2 * N ≤ n := by rw [← hg.clen]; exact h.room.1
  have hcl := hg.clen
  have hhalf : ∀ H, H ≤ 1 → halfOf d H = secs d.curs (H * N) N := fun H hH => by
    unfold halfOf
    rw [hg.len, hN]
    exact sectorsAt_secs hg _ _ (half_room hH hn2)
  have hfr : JS.fresh d = ⟨false, false, 0, 0, 0, [], []⟩ := by unfold JS.fresh; rw [hg.up]
  have hle := h.le
  have hat := h.at_
  simp only at hle hat
  have hown : secs d.curs 0 N = recsImg 0 1 rs ++ secs d.curs at_ (N - at_) := by
    rw [← h.img]
    simp only
    rw [show secs d.curs at_ (N - at_) = secs d.curs (0 + at_) (N - at_) by rw [Nat.zero_add], ← secs_split]; congr 1; omega
  have hrest : getF (secs d.curs at_ (N - at_)) = none := h.noFrame at_ (N - at_) (Nat.le_refl _) (by omega)
  have hlooks : d.looks = ⟨false, false, 0, 0, 0, [], []⟩ := by
    unfold DS.looks
    rw [hhalf 0 (by omega), hhalf 1 (by omega), hfr]
    have t0 : (JS.mk false false 0 0 0 [] []).takes 0 (secs d.curs (0 * N) N) = ⟨false, false, 0, 0, 0, [], []⟩ := by
      rw [Nat.zero_mul]
      unfold JS.takes
      cases hrs : rs with
      | nil =>
        have h0 : at_ = 0 := by rw [hat, hrs]; rfl
        have : getF (secs d.curs 0 N) = none := h.noFrame 0 N (by simp only; omega) (by omega)
        rw [this]
      | cons r l =>
        have : getF (secs d.curs 0 N) = some (2, 0, 1, r) := by
          rw [hown, hrs]
          simp only [recsImg]
          rw [List.append_assoc]
          exact getF_putF 2 0 1 r _ (by omega) (by omega) (by omega) (h.bod r (by simp only; rw [hrs]; exact List.mem_cons_self ..))
        rw [this]
        exact if_neg (by omega)
    rw [t0]
    unfold JS.takes
    rw [h.noFrame (1 * N) N (by simp only; omega) (by omega)]
  unfold DS.opens
  rw [if_neg (by rw [hg.up]; decide), hlooks]
  have hlen : (secs d.curs 0 N).length = 64 * N := secs_length h.all64 _ _ (by omega)
  have hrs := recsSize_len rs
  have himg : (secs d.curs 0 N).drop (64 * 0) = recsImg 0 (([] : List (List UInt8)).length + 1) rs ++ secs d.curs at_ (N - at_) := by
    rw [Nat.mul_zero, List.drop_zero]; exact hown
  have hrm := h.room
  have hf := followsN_img (secs d.curs 0 N) 0 N hlen (by omega) rs (N - 0 + 1) 0 [] _ (by omega) himg h.bod (by simp only [List.length_nil]; omega) (noF_none hrest)
  unfold JS.follows
  simp only
  rw [hhalf 0 (by omega), Nat.zero_mul, hlen, Nat.mul_div_cancel_left _ (by omega : 0 < 64), hf, List.nil_append, Nat.zero_add, ← hat]
theorem PL.lim {c : List (List UInt8)} {N : Nat} {s : JS} (h : PL c N s) : s.Lim N := by
  have := recsSize_len s.recs
  rw [h.st]
  exact ⟨Nat.zero_le _, Nat.zero_le _, by simp only; rw [h.at_]; exact this, h.le⟩
def JS.grow (s : JS) (b : List UInt8) : JS := { s with recs := s.recs ++ [b], at_ := s.at_ + sectorsF b.length }
theorem PL.gen {c : List (List UInt8)} {N : Nat} {s : JS} (h : PL c N s) : s.gen = 0 ∧ s.half = 0 ∧ s.down = false ∧ s.has = false ∧ s.pict = [] := by
  rw [h.st]; exact ⟨rfl, rfl, rfl, rfl, rfl⟩
theorem PL.grows {c c' : List (List UInt8)} {N : Nat} {s : JS} (h : PL c N s) (b : List UInt8) (hb : b.length ≤ 60000) (hr : s.at_ + sectorsF b.length ≤ N)
    (hc : ∀ j : Nat, c'[j]? = if s.at_ ≤ j ∧ j < s.at_ + sectorsF b.length then some (sectAt (putF 2 s.gen (s.recs.length + 1) b) (j - s.at_)) else c[j]?) (hlen : c'.length = c.length) : PL c' N (s.grow b) := by
  have hpl := putF_length 2 s.gen (s.recs.length + 1) b
  have h64 : ∀ x ∈ c', x.length = 64 := fun x hx => by
    obtain ⟨j, hj, rfl⟩ := List.getElem_of_mem hx
    have h1 : c'[j]? = some c'[j] := List.getElem?_eq_getElem hj
    rw [hc] at h1
    by_cases hin : s.at_ ≤ j ∧ j < s.at_ + sectorsF b.length
    · rw [if_pos hin] at h1
      rw [← Option.some.inj h1]
      unfold sectAt
      rw [List.length_take, List.length_drop, hpl]; omega
    · rw [if_neg hin] at h1
      exact h.all64 _ (List.mem_of_getElem? h1)
  have e1 : secs c' s.at_ (sectorsF b.length) = putF 2 s.gen (s.recs.length + 1) b := by
    rw [secs_chunks c' (putF 2 s.gen (s.recs.length + 1) b) s.at_ (sectorsF b.length) (fun j hj => by rw [hc, if_pos ⟨by omega, by omega⟩]; congr 2; omega), List.take_of_length_le (by rw [hpl]; exact Nat.le_refl _)]
  have hgr : s.grow b = ⟨false, false, 0, 0, s.at_ + sectorsF b.length, [], s.recs ++ [b]⟩ := by
    unfold JS.grow
    obtain ⟨g0, g1, g2, g3, g4⟩ := h.gen
    rw [g0, g1, g2, g3, g4]
  have hg := h.gen.1
  rw [hgr]
  refine ⟨rfl, ?_, hr, ⟨by rw [hlen]; exact h.room.1, h.room.2⟩, h64, ?_, ?_, ?_⟩
  · simp only; rw [recsSize_snoc, h.at_]
  · intro r hr'
    rcases List.mem_append.1 hr' with h1 | h1
    · exact h.bod r h1
    · rw [List.mem_singleton.1 h1]; exact hb
  · simp only
    rw [secs_split, Nat.zero_add, e1, recsImg_snoc, ← h.img, hg, Nat.add_comm s.recs.length 1]
    congr 1
    exact secs_congr (fun j h1 h2 => by rw [hc, if_neg (by omega)])
  · intro j x hj hx
    simp only at hj
    rw [hc, if_neg (by omega)] at hx
    exact h.marks j x (by omega) hx
theorem sectAt_putF (k g q : Nat) (b : List UInt8) (i : Nat) (hi : i < sectorsF b.length) : (sectAt (putF k g q b) i)[0]? = some (markF i) := by
  have := putF_mark k g q b [] i hi
  rw [List.append_nil] at this
  unfold sectAt
  rw [List.getElem?_take_of_lt (by omega), List.getElem?_drop, Nat.add_zero]
  exact this
theorem PL.torn {c c' : List (List UInt8)} {N : Nat} {s : JS} (h : PL c N s) (b : List UInt8)
    (hc : ∀ j : Nat, c'[j]? = c[j]? ∨ (s.at_ < j ∧ j < s.at_ + sectorsF b.length ∧ c'[j]? = some (sectAt (putF 2 s.gen (s.recs.length + 1) b) (j - s.at_)))) (hlen : c'.length = c.length) : PL c' N s := by
  have hpl := putF_length 2 s.gen (s.recs.length + 1) b
  refine ⟨h.st, h.at_, h.le, ⟨by rw [hlen]; exact h.room.1, h.room.2⟩, fun x hx => ?_, h.bod, ?_, fun j x hj hx => ?_⟩
  · obtain ⟨j, hj, rfl⟩ := List.getElem_of_mem hx
    have h1 : c'[j]? = some c'[j] := List.getElem?_eq_getElem hj
    rcases hc j with e | ⟨e1, e2, e3⟩
    · rw [e] at h1; exact h.all64 _ (List.mem_of_getElem? h1)
    · rw [e3] at h1
      rw [← Option.some.inj h1]
      unfold sectAt
      rw [List.length_take, List.length_drop, hpl]; omega
  · rw [← h.img]
    exact secs_congr (fun j h1 h2 => (hc j).elim id (fun e => by omega))
  · rcases hc j with e | ⟨e1, e2, e3⟩
    · rw [e] at hx; exact h.marks j x hj hx
    · rw [e3] at hx
      rw [← Option.some.inj hx, sectAt_putF _ _ _ _ _ (by omega)]
      unfold markF
      rw [if_neg (by omega)]
      decide
theorem PL.appends {d : DS} {n N : Nat} {s : JS} (hu : Up d n) (hp : d.pend = []) (hN : n / 2 = N) (h : PL d.lasts N s) (b : List UInt8) :
    (60000 < b.length ∧ s.appends d b = (s, d, 3)) ∨ (b.length ≤ 60000 ∧ s.appends d b = (s, d, 12)) ∨
    (∃ d', s.appends d b = (s.grow b, d', 0) ∧ Up d' n ∧ d'.pend = [] ∧ PL d'.lasts N (s.grow b)) ∨
    (∃ s' d', s.appends d b = (s', d', 13) ∧ ∀ keep, (d'.crash keep).lasts.length = n ∧ (PL (d'.crash keep).lasts N s ∨ PL (d'.crash keep).lasts N (s.grow b))) := by
  obtain ⟨g0, g1, g2, g3, g4⟩ := h.gen
  have hpl := putF_length 2 s.gen (s.recs.length + 1) b
  by_cases hb : 60000 < b.length
  · left
    refine ⟨hb, ?_⟩
    unfold JS.appends
    rw [if_neg (by rw [g2, hu.up]; decide), if_pos hb]
  · right
    by_cases hr : N < s.at_ + sectorsF b.length
    · left
      refine ⟨by omega, ?_⟩
      unfold JS.appends
      rw [if_neg (by rw [g2, hu.up]; decide), if_neg hb, hu.len, hN, if_pos hr]
    · right
      have hn2 : 2 * N ≤ n := by have := h.room.1; rw [hu.len] at this; exact this
      have happ : s.appends d b = if (d.lays s.at_ (putF 2 s.gen (s.recs.length + 1) b) (sectorsF b.length)).2 = true then
          (s.grow b, (d.lays s.at_ (putF 2 s.gen (s.recs.length + 1) b) (sectorsF b.length)).1, 0) else ({ s with down := true }, (d.lays s.at_ (putF 2 s.gen (s.recs.length + 1) b) (sectorsF b.length)).1, 13) := by
        unfold JS.appends JS.grow
        rw [if_neg (by rw [g2, hu.up]; decide), if_neg hb, hu.len, hN, if_neg hr, g1, Nat.zero_mul, Nat.zero_add]
      rcases hu.lays (base := s.at_) (m := sectorsF b.length) (b := putF 2 s.gen (s.recs.length + 1) b) hp (sectorsF_pos _) (by omega) hpl with ⟨l1, l2, l3, l4⟩ | ⟨l1, l2, l3, l4⟩
      · left
        rw [if_pos l1] at happ
        refine ⟨_, happ, l2, l3, ?_⟩
        have hcl : (d.lays s.at_ (putF 2 s.gen (s.recs.length + 1) b) (sectorsF b.length)).1.curs = (d.lays s.at_ (putF 2 s.gen (s.recs.length + 1) b) (sectorsF b.length)).1.lasts := by
          revert l3
          generalize (d.lays s.at_ (putF 2 s.gen (s.recs.length + 1) b) (sectorsF b.length)).1 = e
          intro l3
          obtain ⟨l, p, f, dn⟩ := e
          simp only at l3
          subst l3
          exact curs_none _ _ _
        rw [hcl] at l4
        exact h.grows b (by omega) (by omega) l4 (by rw [l2.len, hu.len])
      · right
        rw [if_neg (by rw [l1]; decide)] at happ
        refine ⟨_, _, happ, fun keep => ?_⟩
        have hcl : ((d.lays s.at_ (putF 2 s.gen (s.recs.length + 1) b) (sectorsF b.length)).1.crash keep).lasts.length = n := (DS.layTo_length _ _ _).trans l3
        refine ⟨hcl, ?_⟩
        rcases l4.crash (sectorsF_pos _) (by rw [hu.len]; omega) keep with e | e
        · exact .inl (h.torn b e (by rw [hcl, hu.len]))
        · exact .inr (h.grows b (by omega) (by omega) e (by rw [hcl, hu.len]))
end Go.Proofs.YtjilbnpehgigjaaGreat

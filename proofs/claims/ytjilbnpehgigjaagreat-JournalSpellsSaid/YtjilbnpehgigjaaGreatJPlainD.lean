/- Package journal, plain: Append, Compact and Open keep to what the journal says, on a disk without a fuse. -/
import Derived.Test.YtjilbnpehgigjaaGreatJPlainC
namespace Go.Proofs.YtjilbnpehgigjaaGreat
open Go.RowKit
theorem half_room {H N n : Nat} (h : H ≤ 1) (hn : 2 * N ≤ n) : H * N + N ≤ n := by
  rcases (show H = 0 ∨ H = 1 by omega) with rfl | rfl <;> omega
theorem half_apart {H N a b : Nat} (h : H ≤ 1) (ha : a < N) (hb : b < N) : (1 - H) * N + a ≠ H * N + b := by
  rcases (show H = 0 ∨ H = 1 by omega) with rfl | rfl <;> omega
/-- the other half stays -/
theorem secs_other {c c' : List (List UInt8)} {N H K at_ m : Nat} {f : Nat → Option (List UInt8)} (hH : H ≤ 1) (hK : K = 1 - H) (hat : at_ + m ≤ N) (hc : ∀ j, c'[j]? = if H * N + at_ ≤ j ∧ j < H * N + at_ + m then f j else c[j]?) (p : Nat) : secs c' (K * N + p) (N - p) = secs c (K * N + p) (N - p) := by
  subst hK
  refine secs_congr (fun j h1 h2 => ?_)
  rw [hc, if_neg]
  rcases (show H = 0 ∨ H = 1 by omega) with rfl | rfl
  · simp at h1 h2 ⊢; omega
  · simp at h1 h2 ⊢; omega
theorem PI.appends {d : DS} {n N : Nat} {s : JS} (hg : Good d n) (hN : n / 2 = N) (h : PI d.curs N s) (b : List UInt8) (hb : b.length ≤ 60000) (hr : s.at_ + sectorsF b.length ≤ N) :
    ∃ d', s.appends d b = ({ s with recs := s.recs ++ [b], at_ := s.at_ + sectorsF b.length }, d', 0) ∧ Good d' n ∧ d'.pend = [] ∧ PI d'.curs N { s with recs := s.recs ++ [b], at_ := s.at_ + sectorsF b.length } := by
  obtain ⟨hh, hgen, hrl, hal⟩ := h.lim
  have hn2 : 2 * N ≤ n := by rw [← hg.clen]; exact h.room.1
  have hhr := half_room hh hn2
  have hpl := putF_length 2 s.gen (s.recs.length + 1) b
  obtain ⟨l1, l2, l3, l4⟩ := hg.lays (base := s.half * N + s.at_) (m := sectorsF b.length) (b := putF 2 s.gen (s.recs.length + 1) b) (sectorsF_pos _) (by omega) hpl
  refine ⟨_, ?_, l2, l3, ?_⟩
  · unfold JS.appends
    rw [hg.len, hN, if_neg (by rw [h.up, hg.up]; decide), if_neg (by omega), if_neg (by omega), if_pos l1]
  · obtain ⟨o1, o2, o3, o4⟩ := over_ok (H := s.half * N) (N := N) (at_ := s.at_) rfl hr (by rw [hg.clen]; exact hhr) (by rw [l2.clen]; exact hhr) h.all64 l2.all64 l4
    have hown : ∀ G, ∀ p, s.at_ + sectorsF b.length ≤ p → p < N → noF G (secs d.curs (s.half * N + p) (N - p)) → noF G (secs (d.lays (s.half * N + s.at_) (putF 2 s.gen (s.recs.length + 1) b) (sectorsF b.length)).1.curs (s.half * N + p) (N - p)) := fun G p h1 h2 h3 => by rw [o4 p h1 h2]; exact h3
    refine ⟨h.up, ⟨hh, hgen, ?_, hr⟩, h.gen0, ⟨h.bod.1, ?_⟩, ?_, ⟨by rw [l2.clen]; exact hn2, h.room.2⟩, l2.all64, ?_, ?_, ?_, ?_⟩
    · rw [List.length_append, List.length_singleton]; have := sectorsF_pos b.length; simp only; omega
    · intro r hr
      rcases List.mem_append.1 hr with h1 | h1
      · exact h.bod.2 r h1
      · rw [List.mem_singleton.1 h1]; exact hb
    · show s.at_ + sectorsF b.length = s.head + recsSize (s.recs ++ [b])
      rw [recsSize_snoc, h.at_]; omega
    · show secs _ (s.half * N) (s.at_ + sectorsF b.length) = _
      rw [secs_split, o1]
      have e : secs (d.lays (s.half * N + s.at_) (putF 2 s.gen (s.recs.length + 1) b) (sectorsF b.length)).1.curs (s.half * N) s.at_ = s.img := by
        rw [← h.img]
        exact secs_congr (fun j h1 h2 => by rw [l4, if_neg (by omega)])
      rw [e]
      unfold JS.img
      simp only
      rw [recsImg_snoc, List.append_assoc, Nat.add_comm 1]
    · intro p hp
      by_cases h1 : p < s.at_
      · exact o2 p h1 _ (h.own1 p hp)
      · by_cases h2 : p = s.at_
        · subst h2
          intro k g q body hgf
          rw [show N - s.at_ = sectorsF b.length + (N - s.at_ - sectorsF b.length) by omega, secs_split, o1, getF_putF 2 s.gen (s.recs.length + 1) b _ (by omega) hgen (by have := h.room.2; omega) hb] at hgf
          simp only [Option.some.injEq, Prod.mk.injEq] at hgf
          simp only
          omega
        · by_cases h3 : p < s.at_ + sectorsF b.length
          · exact o3 p (by omega) h3 _
          · exact hown _ p (by omega) hp (h.own1 p hp)
    · intro p h1 hp
      exact hown _ p h1 hp (h.own2 p (by simp only at h1; omega) hp)
    · intro p hp
      simp only
      rw [secs_other (f := fun j => some (sectAt (putF 2 s.gen (s.recs.length + 1) b) (j - (s.half * N + s.at_)))) hh rfl hr l4 p]
      exact h.oth p hp
theorem PI.full {d : DS} {n N : Nat} {s : JS} (hg : Good d n) (hN : n / 2 = N) (h : PI d.curs N s) (b : List UInt8) (hb : b.length ≤ 60000) (hr : ¬ s.at_ + sectorsF b.length ≤ N) : s.appends d b = (s, d, 12) := by
  unfold JS.appends
  rw [hg.len, hN, if_neg (by rw [h.up, hg.up]; decide), if_neg (by omega), if_pos (by omega)]
theorem PI.compacts {d : DS} {n N : Nat} {s : JS} (hg : Good d n) (hN : n / 2 = N) (h : PI d.curs N s) (b : List UInt8) (hb : b.length ≤ 60000) (hr : sectorsF b.length ≤ N) (hgm : s.gen < 4294967295) :
    ∃ d', s.compacts d b = ({ s with half := 1 - s.half, gen := s.gen + 1, has := true, pict := b, recs := [], at_ := sectorsF b.length }, d', 0) ∧ Good d' n ∧ d'.pend = [] ∧ PI d'.curs N { s with half := 1 - s.half, gen := s.gen + 1, has := true, pict := b, recs := [], at_ := sectorsF b.length } := by
  obtain ⟨hh, hgen, hrl, hal⟩ := h.lim
  have hn2 : 2 * N ≤ n := by rw [← hg.clen]; exact h.room.1
  have hhr := half_room (H := 1 - s.half) (by omega) hn2
  have hpl := putF_length 1 (s.gen + 1) 0 b
  obtain ⟨l1, l2, l3, l4⟩ := hg.lays (base := (1 - s.half) * N) (m := sectorsF b.length) (b := putF 1 (s.gen + 1) 0 b) (sectorsF_pos _) (by omega) hpl
  refine ⟨_, ?_, l2, l3, ?_⟩
  · unfold JS.compacts
    rw [hg.len, hN, if_neg (by rw [h.up, hg.up]; decide), if_neg (by omega), if_neg (by omega), if_pos hgm, if_pos l1]
  · obtain ⟨o1, o2, o3, o4⟩ := over_ok (H := (1 - s.half) * N) (N := N) (at_ := 0) rfl (by omega) (by rw [hg.clen]; exact hhr) (by rw [l2.clen]; exact hhr) h.all64 l2.all64 l4
    refine ⟨h.up, ⟨by simp only; omega, by simp only; omega, Nat.zero_le _, hr⟩, fun e => by simp at e, ⟨hb, fun r hr => by simp at hr⟩, ?_, ⟨by rw [l2.clen]; exact hn2, h.room.2⟩, l2.all64, ?_, ?_, ?_, ?_⟩
    · show sectorsF b.length = JS.head _ + recsSize []
      simp [JS.head, recsSize]
    · show secs _ ((1 - s.half) * N + 0) (sectorsF b.length) = JS.img _
      rw [o1]
      simp [JS.img, recsImg]
    · intro p hp
      simp only
      by_cases h2 : p = 0
      · subst h2
        intro k g q body hgf
        rw [show N - 0 = sectorsF b.length + (N - sectorsF b.length) by omega, secs_split, o1, getF_putF 1 (s.gen + 1) 0 b _ (by omega) (by omega) (by omega) hb] at hgf
        simp only [Option.some.injEq, Prod.mk.injEq] at hgf
        omega
      · by_cases h3 : p < 0 + sectorsF b.length
        · exact o3 p (by omega) h3 _
        · rw [o4 p (by omega) hp]
          exact (h.oth p hp).mono (by omega)
    · intro p h1 hp
      simp only at h1 ⊢
      rw [o4 p (by omega) hp]
      exact (h.oth p hp).mono (by omega)
    · intro p hp
      simp only
      rw [show 1 - (1 - s.half) = s.half by omega]
      rw [secs_other (f := fun j => some (sectAt (putF 1 (s.gen + 1) 0 b) (j - ((1 - s.half) * N)))) (H := 1 - s.half) (at_ := 0) (m := sectorsF b.length) (by omega) (by omega) (by omega) l4 p]
      exact h.own1 p hp
theorem PI.opens {d : DS} {n N : Nat} {s : JS} (hg : Good d n) (hN : n / 2 = N) (h : PI d.curs N s) : d.opens = s := by
  obtain ⟨hh, hgen, hrl, hal⟩ := h.lim
  have hn2 : 2 * N ≤ n := by rw [← hg.clen]; exact h.room.1
  have hhalf : ∀ H, H ≤ 1 → halfOf d H = secs d.curs (H * N) N := fun H hH => by
    unfold halfOf
    rw [hg.len, hN]
    exact sectorsAt_secs hg _ _ (half_room hH hn2)
  have hfr : JS.fresh d = ⟨false, false, 0, 0, 0, [], []⟩ := by unfold JS.fresh; rw [hg.up]
  have hnil : ∀ H G, H ≤ 1 → (∀ p, p < N → noF G (secs d.curs (H * N + p) (N - p))) → noF G (secs d.curs (H * N) N) := fun H G hH hno => by
    rcases Nat.eq_zero_or_pos N with h0 | h0
    · subst h0
      exact noF_none (getF_mark0 (by simp [secs]))
    · have := hno 0 h0
      rwa [Nat.add_zero, Nat.sub_zero] at this
  have hown : secs d.curs (s.half * N) N = s.img ++ secs d.curs (s.half * N + s.at_) (N - s.at_) := by
    rw [← h.img, ← secs_split]; congr 1; omega
  have hoth := hnil (1 - s.half) s.gen (by omega) h.oth
  have hrest : noF s.gen (secs d.curs (s.half * N + s.at_) (N - s.at_)) := by
    by_cases hl : s.at_ < N
    · exact h.own2 s.at_ (Nat.le_refl _) hl
    · rw [show N - s.at_ = 0 by omega]
      exact noF_none (getF_mark0 (by simp [secs]))
  have hlooks : d.looks = { s with recs := [], at_ := s.head } := by
    unfold DS.looks
    rw [hhalf 0 (by omega), hhalf 1 (by omega), hfr]
    cases hs : s.has with
    | false =>
      obtain ⟨g0, h0, p0⟩ := h.gen0 hs
      rw [h0] at hoth hown hrest
      rw [g0] at hoth hrest
      have e1 : getF (secs d.curs (1 * N) N) = none := by
        cases hx : getF (secs d.curs (1 * N) N) with
        | none => rfl
        | some x => exact absurd (hoth x.1 x.2.1 x.2.2.1 x.2.2.2 hx) (by omega)
      have t0 : (JS.mk false false 0 0 0 [] []).takes 0 (secs d.curs (0 * N) N) = ⟨false, false, 0, 0, 0, [], []⟩ := by
        unfold JS.takes
        cases hrs : s.recs with
        | nil =>
          have : getF (secs d.curs (0 * N) N) = none := by
            rw [hown, JS.img, hs, hrs]
            simp only [Bool.false_eq_true, ↓reduceIte, recsImg, List.append_nil, List.nil_append]
            cases hx : getF (secs d.curs (0 * N + s.at_) (N - s.at_)) with
            | none => rfl
            | some x => exact absurd (hrest x.1 x.2.1 x.2.2.1 x.2.2.2 hx) (by omega)
          rw [this]
        | cons r l =>
          have : getF (secs d.curs (0 * N) N) = some (2, s.gen, 1, r) := by
            rw [hown, JS.img, hs, hrs]
            simp only [Bool.false_eq_true, ↓reduceIte, recsImg, List.nil_append]
            rw [List.append_assoc]
            exact getF_putF 2 s.gen 1 r _ (by omega) hgen (by omega) (h.bod.2 r (by rw [hrs]; exact List.mem_cons_self ..))
          rw [this]
          exact if_neg (by omega)
      rw [t0]
      unfold JS.takes
      rw [e1]
      unfold JS.head
      rw [hs, h.up, g0, h0, p0]
      rfl
    | true =>
      have hog : ∀ H, H = s.half → getF (secs d.curs (H * N) N) = some (1, s.gen, 0, s.pict) := fun H hH => by
        rw [hH, hown, JS.img, hs, if_pos rfl, List.append_assoc]
        exact getF_putF 1 s.gen 0 s.pict _ (by omega) hgen (by omega) h.bod.1
      have hhd : s.head = sectorsF s.pict.length := by unfold JS.head; rw [hs]; rfl
      rw [hhd]
      rcases (show s.half = 0 ∨ s.half = 1 by omega) with e | e
      · have t0 : (JS.mk false false 0 0 0 [] []).takes 0 (secs d.curs (0 * N) N) = ⟨false, true, 0, s.gen, sectorsF s.pict.length, s.pict, []⟩ := by
          unfold JS.takes
          rw [hog 0 e.symm]
          exact if_pos ⟨rfl, rfl, fun x => by simp at x⟩
        rw [t0]
        unfold JS.takes
        rw [e] at hoth
        cases hx : getF (secs d.curs (1 * N) N) with
        | none => simp only; rw [h.up, e]
        | some x =>
          obtain ⟨k, g, q, body⟩ := x
          have := hoth k g q body hx
          simp only
          rw [if_neg (fun x => x.2.2 ⟨trivial, by omega⟩), h.up, e]
      · rw [e] at hoth
        have t0 : ∃ ha g a p, (JS.mk false false 0 0 0 [] []).takes 0 (secs d.curs (0 * N) N) = ⟨false, ha, 0, g, a, p, []⟩ ∧ (ha = true → g < s.gen) := by
          unfold JS.takes
          cases hx : getF (secs d.curs (0 * N) N) with
          | none => exact ⟨_, _, _, _, rfl, fun x => by simp at x⟩
          | some x =>
            obtain ⟨k, g, q, body⟩ := x
            have := hoth k g q body hx
            simp only
            split
            · exact ⟨_, _, _, _, rfl, fun _ => this⟩
            · exact ⟨_, _, _, _, rfl, fun x => by simp at x⟩
        obtain ⟨ha, g, a, p, t0, t1⟩ := t0
        rw [t0]
        unfold JS.takes
        rw [hog 1 e.symm]
        simp only
        rw [if_pos ⟨trivial, trivial, fun x => by have := t1 x.1; omega⟩, h.up, e]
  unfold DS.opens
  rw [if_neg (by rw [hg.up]; decide), hlooks]
  have hlen : (secs d.curs (s.half * N) N).length = 64 * N := secs_length h.all64 _ _ (by rw [hg.clen]; exact half_room hh hn2)
  have hsz := h.at_
  have hrs := recsSize_len s.recs
  have himg : (secs d.curs (s.half * N) N).drop (64 * s.head) = recsImg s.gen (([] : List (List UInt8)).length + 1) s.recs ++ secs d.curs (s.half * N + s.at_) (N - s.at_) := by
    rw [hown, JS.img]
    cases hs : s.has with
    | false => simp [JS.head, hs]
    | true =>
      simp only [JS.head, hs, ↓reduceIte]
      rw [List.append_assoc, ← putF_length 1 s.gen 0 s.pict, List.drop_left]
      rfl
  have hf := followsN_img (secs d.curs (s.half * N) N) s.gen N hlen hgen s.recs (N - s.head + 1) s.head [] _ (by omega) himg h.bod.2 (by have := h.room.2; simp only [List.length_nil]; omega) hrest
  unfold JS.follows
  simp only
  rw [hhalf s.half hh, hlen, Nat.mul_div_cancel_left _ (by omega : 0 < 64), hf, List.nil_append, ← hsz]
end Go.Proofs.YtjilbnpehgigjaaGreat

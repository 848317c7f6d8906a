/- Package journal: what Open finds. -/
import Derived.Test.YtjilbnpehgigjaaGreatJAppend
import Derived.Test.YtjilbnpehgigjaaGreatJOps
import Derived.Test.YtjilbnpehgigjaaGreatJPlainB
namespace Go.Proofs.YtjilbnpehgigjaaGreat
open Go.RowKit
def JS.fresh (d : DS) : JS := ⟨d.down, false, 0, 0, 0, [], []⟩
def halfOf (d : DS) (h : Nat) : List UInt8 := sectorsAt d (h * (d.lasts.length / 2)) (d.lasts.length / 2)
def DS.looks (d : DS) : JS := ((JS.fresh d).takes 0 (halfOf d 0)).takes 1 (halfOf d 1)
def DS.opens (d : DS) : JS := if d.down = true then JS.fresh d else d.looks.follows (halfOf d d.looks.half)
theorem JS.takes_recs (s : JS) (h : Nat) (b : List UInt8) : (s.takes h b).recs = s.recs := by
  unfold JS.takes
  repeat' split
  all_goals rfl
theorem JS.takes_down (s : JS) (h : Nat) (b : List UInt8) : (s.takes h b).down = s.down := by
  unfold JS.takes
  repeat' split
  all_goals rfl
theorem JS.takes_cases (s : JS) (h : Nat) (b : List UInt8) : s.takes h b = s ∨ ((s.takes h b).half = h ∧ 64 * (s.takes h b).at_ ≤ b.length) := by
  unfold JS.takes
  split
  · exact .inl rfl
  · rename_i k g q body hg
    split
    · exact .inr ⟨rfl, (getF_fits b k g q body hg).1⟩
    · exact .inl rfl
theorem followsN_lim (b : List UInt8) (gen : Nat) : ∀ (f a : Nat) (rs : List (List UInt8)), 64 * a ≤ b.length → rs.length ≤ a → 64 * (followsN b gen f a rs).1 ≤ b.length ∧ (followsN b gen f a rs).2.length ≤ (followsN b gen f a rs).1
  | 0, a, rs, h1, h2 => ⟨h1, h2⟩
  | f + 1, a, rs, h1, h2 => by
    cases hg : getF (b.drop (64 * a)) with
    | none => rw [followsN_none b gen f a rs hg]; exact ⟨h1, h2⟩
    | some x =>
      obtain ⟨k, g, q, body⟩ := x
      by_cases hc : k = 2 ∧ g = gen ∧ q = rs.length + 1
      · rw [followsN_go b gen f a rs k g q body hg hc]
        have hfit := getF_fits _ k g q body hg
        rw [List.length_drop] at hfit
        refine followsN_lim b gen f _ _ (by omega) ?_
        rw [List.length_append]
        simp only [List.length_cons, List.length_nil]
        omega
      · rw [followsN_stop b gen f a rs k g q body hg hc]; exact ⟨h1, h2⟩
theorem DS.looks_lim (d : DS) (hh : ∀ h, h ≤ 1 → (halfOf d h).length = 64 * (d.lasts.length / 2)) : d.looks.half ≤ 1 ∧ d.looks.at_ ≤ d.lasts.length / 2 ∧ d.looks.recs = [] ∧ d.looks.down = d.down := by
  have h0 := hh 0 (by omega)
  have h1 := hh 1 (by omega)
  refine ⟨?_, ?_, ?_, ?_⟩
  · unfold DS.looks
    rcases ((JS.fresh d).takes 0 (halfOf d 0)).takes_cases 1 (halfOf d 1) with e | e
    · rw [e]
      rcases (JS.fresh d).takes_cases 0 (halfOf d 0) with e | e
      · rw [e]; exact Nat.zero_le _
      · rw [e.1]; exact Nat.zero_le _
    · rw [e.1]; exact Nat.le_refl _
  · unfold DS.looks
    rcases ((JS.fresh d).takes 0 (halfOf d 0)).takes_cases 1 (halfOf d 1) with e | e
    · rw [e]
      rcases (JS.fresh d).takes_cases 0 (halfOf d 0) with e | e
      · rw [e]; exact Nat.zero_le _
      · have := e.2; omega
    · have := e.2; omega
  · unfold DS.looks; rw [JS.takes_recs, JS.takes_recs]; rfl
  · unfold DS.looks; rw [JS.takes_down, JS.takes_down]; rfl
/-- a disk and the table: all of their blocks -/
def IsDT (F : Nat → Prop) (w : World) (tb db bl bm : Nat) (d : DS) : Prop := IsTab w tb ∧ ∃ C, IsDisk w db bl bm C d ∧ ∀ k, foot db bl bm C k → F k ∧ k ≠ tb ∧ k < w.heap.size
theorem IsJD.dt {F : Nat → Prop} {w : World} {jb tb db bl bm : Nat} {s : JS} {d : DS} (h : IsJD F w jb tb db bl bm s d) : IsDT F w tb db bl bm d := by
  obtain ⟨S, C, h1, h2, h3, h4⟩ := h.ex
  exact ⟨h.tab, C, h2, fun k hk => h4 k (.inr hk)⟩
end Go.Proofs.YtjilbnpehgigjaaGreat

/- What a journal's parts keep to, through Open and Append. -/
namespace Go.Proofs.YtjilbnpehgigjaaGreat
open Go.RowKit
/-- what a journal's parts keep to -/
def JS.Ok (s : JS) (N : Nat) : Prop := s.Lim N ∧ s.pict.length ≤ 60000 ∧ ∀ r ∈ s.recs, r.length ≤ 60000
theorem JS.fresh_ok (d : DS) (N : Nat) : (JS.fresh d).Ok N := ⟨⟨by simp [JS.fresh], by simp [JS.fresh], by simp [JS.fresh], by simp [JS.fresh]⟩, by simp [JS.fresh], fun r h => by simp [JS.fresh] at h⟩
theorem JS.takes_ok {s : JS} {N h : Nat} {b : List UInt8} (hh : h ≤ 1) (hb : b.length = 64 * N) (hs : s.Ok N) (hr : s.recs = []) : (s.takes h b).Ok N := by
  unfold JS.takes
  split
  · exact hs
  · rename_i k g q body heq
    split
    · have h1 := getF_some heq
      have h2 := getF_fits _ _ _ _ _ heq
      obtain ⟨⟨a1, a2, a3, a4⟩, a5, a6⟩ := hs
      refine ⟨⟨hh, h1.2.2.1, ?_, ?_⟩, h1.2.2.2.2, ?_⟩
      · simp only [hr, List.length_nil]; omega
      · simp only; omega
      · intro r h; simp only [hr] at h; cases h
    · exact hs
theorem followsN_bodies (b : List UInt8) (gen : Nat) : ∀ (f a : Nat) (rs : List (List UInt8)), (∀ r ∈ rs, r.length ≤ 60000) → ∀ r ∈ (followsN b gen f a rs).2, r.length ≤ 60000
  | 0, _, _, h => h
  | f + 1, a, rs, h => by
    unfold followsN
    split
    · rename_i k g q body heq
      split
      · have h1 := getF_some heq
        exact followsN_bodies b gen f _ _ (fun r hr => by
          rcases List.mem_append.1 hr with hr | hr
          · exact h r hr
          · simp only [List.mem_singleton] at hr; rw [hr]; exact h1.2.2.2.2)
      · exact h
    · exact h
theorem JS.follows_ok {s : JS} {N : Nat} {b : List UInt8} (hb : b.length = 64 * N) (hs : s.Ok N) : (s.follows b).Ok N := by
  obtain ⟨⟨a1, a2, a3, a4⟩, a5, a6⟩ := hs
  have h := followsN_lim b s.gen (b.length / 64 - s.at_ + 1) s.at_ s.recs (by omega) a3
  have h2 := followsN_bodies b s.gen (b.length / 64 - s.at_ + 1) s.at_ s.recs a6
  unfold JS.follows
  exact ⟨⟨a1, a2, h.2, by have := h.1; simp only; omega⟩, a5, h2⟩
theorem DS.opens_ok (d : DS) (h : d.down = false → ∀ hf, hf ≤ 1 → (halfOf d hf).length = 64 * (d.lasts.length / 2)) : d.opens.Ok (d.lasts.length / 2) := by
  unfold DS.opens
  cases hd : d.down with
  | true => rw [if_pos rfl]; exact JS.fresh_ok _ _
  | false =>
    have hl := h hd
    rw [if_neg (by decide)]
    have l1 : ((JS.fresh d).takes 0 (halfOf d 0)).Ok (d.lasts.length / 2) := JS.takes_ok (by omega) (hl 0 (by omega)) (JS.fresh_ok _ _) rfl
    have l2 : d.looks.Ok (d.lasts.length / 2) := JS.takes_ok (by omega) (hl 1 (by omega)) l1 (by rw [JS.takes_recs]; rfl)
    exact JS.follows_ok (hl _ l2.1.1) l2
theorem DS.tails_len (base : Nat) (b : List UInt8) : ∀ (f k : Nat) (d : DS), (d.tails base b f k).1.lasts.length = d.lasts.length
  | 0, _, _ => rfl
  | f + 1, k, d => by
    unfold DS.tails
    split
    · rw [DS.tails_len base b f (k + 1), DS.write_len]
    · rw [DS.write_len]
theorem DS.lays_len (d : DS) (base : Nat) (b : List UInt8) (m : Nat) : (d.lays base b m).1.lasts.length = d.lasts.length := by
  unfold DS.lays
  have ht := DS.tails_len base b (m - 1) 1 d
  generalize (d.tails base b (m - 1) 1) = x at ht ⊢
  split
  · rw [← ht]
    unfold DS.heads
    have h1 : ∀ y : DS, (if 1 < m then y.sync.1 else y).lasts.length = y.lasts.length := fun y => by split; rw [DS.sync_len]; rfl
    repeat' split
    all_goals simp only [DS.write_len, DS.sync_len, h1]
  · exact ht
theorem JS.appends_ok {s : JS} {d : DS} {b : List UInt8} (hs : s.Ok (d.lasts.length / 2)) : (s.appends d b).1.Ok ((s.appends d b).2.1.lasts.length / 2) := by
  obtain ⟨⟨a1, a2, a3, a4⟩, a5, a6⟩ := id hs
  unfold JS.appends
  split
  · exact hs
  split
  · exact hs
  split
  · exact hs
  rename_i _ hb hr
  split
  · rw [DS.lays_len]
    refine ⟨⟨a1, a2, ?_, ?_⟩, a5, fun r h => ?_⟩
    · simp only [List.length_append, List.length_cons, List.length_nil]; have := sectorsF_pos b.length; omega
    · simp only; omega
    · rcases List.mem_append.1 h with h | h
      · exact a6 r h
      · simp only [List.mem_singleton] at h; rw [h]; omega
  · rw [DS.lays_len]; exact hs
end Go.Proofs.YtjilbnpehgigjaaGreat

/- Package journal, plain: a journal over a disk without a fuse; what Open reads of it again. -/
namespace Go.Proofs.YtjilbnpehgigjaaGreat
open Go.RowKit
/-- no frame of this number or a higher one -/
def noF (G : Nat) (b : List UInt8) : Prop := ∀ k g q body, getF b = some (k, g, q, body) → g < G
theorem noF.mono {G H : Nat} {b : List UInt8} (h : noF G b) (hG : G ≤ H) : noF H b := fun k g q body e => Nat.lt_of_lt_of_le (h k g q body e) hG
theorem noF_none {G : Nat} {b : List UInt8} (h : getF b = none) : noF G b := fun k g q body e => by rw [h] at e; cases e
/-- the records' frames -/
def recsImg (g : Nat) : Nat → List (List UInt8) → List UInt8
  | _, [] => []
  | q, r :: l => putF 2 g q r ++ recsImg g (q + 1) l
def recsSize : List (List UInt8) → Nat
  | [] => 0
  | r :: l => sectorsF r.length + recsSize l
theorem recsImg_length (g : Nat) : ∀ (l : List (List UInt8)) (q : Nat), (recsImg g q l).length = 64 * recsSize l
  | [], _ => rfl
  | r :: l, q => by rw [recsImg, List.length_append, putF_length, recsImg_length g l (q + 1), recsSize]; omega
theorem recsImg_snoc (g : Nat) (r : List UInt8) : ∀ (l : List (List UInt8)) (q : Nat), recsImg g q (l ++ [r]) = recsImg g q l ++ putF 2 g (q + l.length) r
  | [], q => by simp [recsImg]
  | a :: l, q => by
    rw [List.cons_append, recsImg, recsImg_snoc g r l (q + 1), recsImg, List.append_assoc, List.length_cons, show q + 1 + l.length = q + (l.length + 1) by omega]
theorem recsSize_snoc (r : List UInt8) : ∀ l : List (List UInt8), recsSize (l ++ [r]) = recsSize l + sectorsF r.length
  | [] => by simp [recsSize]
  | a :: l => by rw [List.cons_append, recsSize, recsSize_snoc r l, recsSize]; omega
theorem recsSize_len : ∀ l : List (List UInt8), l.length ≤ recsSize l
  | [] => Nat.le_refl _
  | a :: l => by rw [recsSize, List.length_cons]; have := recsSize_len l; have := sectorsF_pos a.length; omega
/-- what lies in the journal's half up to its next sector -/
def JS.img (s : JS) : List UInt8 := (if s.has = true then putF 1 s.gen 0 s.pict else []) ++ recsImg s.gen 1 s.recs
def JS.head (s : JS) : Nat := if s.has = true then sectorsF s.pict.length else 0
structure PI (c : List (List UInt8)) (N : Nat) (s : JS) : Prop where
  up : s.down = false
  lim : s.Lim N
  gen0 : s.has = false → s.gen = 0 ∧ s.half = 0 ∧ s.pict = []
  bod : s.pict.length ≤ 60000 ∧ ∀ r ∈ s.recs, r.length ≤ 60000
  at_ : s.at_ = s.head + recsSize s.recs
  room : 2 * N ≤ c.length ∧ N ≤ 4096
  all64 : ∀ x ∈ c, x.length = 64
  img : secs c (s.half * N) s.at_ = s.img
  own1 : ∀ p, p < N → noF (s.gen + 1) (secs c (s.half * N + p) (N - p))
  own2 : ∀ p, s.at_ ≤ p → p < N → noF s.gen (secs c (s.half * N + p) (N - p))
  oth : ∀ p, p < N → noF s.gen (secs c ((1 - s.half) * N + p) (N - p))
/-- what is found in a half behind a frame that was laid over some sectors of it -/
theorem over_ok {c c' : List (List UInt8)} {N H at_ m k g q : Nat} {body : List UInt8} (hm : m = sectorsF body.length) (hat : at_ + m ≤ N) (hN : H + N ≤ c.length) (hN' : H + N ≤ c'.length) (h64 : ∀ x ∈ c, x.length = 64) (h64' : ∀ x ∈ c', x.length = 64)
    (hc : ∀ j, c'[j]? = if H + at_ ≤ j ∧ j < H + at_ + m then some (sectAt (putF k g q body) (j - (H + at_))) else c[j]?) :
    secs c' (H + at_) m = putF k g q body ∧ (∀ p, p < at_ → ∀ G, noF G (secs c (H + p) (N - p)) → noF G (secs c' (H + p) (N - p))) ∧
    (∀ p, at_ < p → p < at_ + m → ∀ G, noF G (secs c' (H + p) (N - p))) ∧ (∀ p, at_ + m ≤ p → p < N → secs c' (H + p) (N - p) = secs c (H + p) (N - p)) := by
  have hpl := putF_length k g q body
  have e1 : secs c' (H + at_) m = putF k g q body := by
    rw [secs_chunks c' (putF k g q body) (H + at_) m (fun j hj => by rw [hc, if_pos ⟨by omega, by omega⟩]; congr 2; omega), List.take_of_length_le (by rw [hpl, hm]; exact Nat.le_refl _)]
  have e2 : ∀ j, j < m → ∀ x, (secs c' (H + at_) (N - at_))[64 * j]? = some x → x = markF j := by
    intro j hj x hx
    have : secs c' (H + at_) (N - at_) = putF k g q body ++ secs c' (H + at_ + m) (N - at_ - m) := by
      rw [← e1, ← secs_split]; congr 1; omega
    rw [this, putF_mark k g q body _ j (by omega)] at hx
    exact (Option.some.inj hx).symm
  refine ⟨e1, fun p hp G h => ?_, fun p h1 h2 G => ?_, fun p h1 h2 => ?_⟩
  · intro k' g' q' b' hg
    have hsp : ∀ C : List (List UInt8), secs C (H + p) (N - p) = secs C (H + p) (at_ - p) ++ secs C (H + at_) (N - at_) := fun C => by
      rw [show N - p = (at_ - p) + (N - at_) by omega, secs_split]; congr 2; omega
    have hl : ∀ C : List (List UInt8), (∀ x ∈ C, x.length = 64) → H + N ≤ C.length → (secs C (H + p) (at_ - p)).length = 64 * (at_ - p) := fun C hC hN => secs_length hC _ _ (by omega)
    have hend := getF_ends (m := at_ - p) hg (by omega) (by
      rw [hsp c', List.getElem?_append_right (by rw [hl c' h64' hN']; exact Nat.le_refl _), hl c' h64' hN', Nat.sub_self]
      intro e
      have := e2 0 (by have := sectorsF_pos body.length; omega) 2 (by simpa using e)
      exact absurd this (by decide))
    refine h k' g' q' b' (getF_pre hg hend ?_)
    rw [hsp c', hsp c, ← hl c' h64' hN', List.take_left, hl c' h64' hN', ← hl c h64 hN, List.take_left]
    exact secs_congr (fun j h1 h2 => by rw [hc, if_neg (by omega)])
  · refine noF_none (getF_mark0 ?_)
    intro e
    have hd : secs c' (H + p) (N - p) = (secs c' (H + at_) (N - at_)).drop (64 * (p - at_)) := by
      rw [secs_drop h64' _ _ _ (by omega) (by omega)]; congr 1 <;> omega
    rw [hd, List.getElem?_drop, Nat.add_zero] at e
    have := e2 (p - at_) (by omega) 1 e
    unfold markF at this
    rw [if_neg (by omega)] at this
    exact absurd this (by decide)
  · exact secs_congr (fun j h1 h2 => by rw [hc, if_neg (by omega)])
theorem followsN_img (b : List UInt8) (g N : Nat) (hN : b.length = 64 * N) (hg : g ≤ 4294967295) : ∀ (l : List (List UInt8)) (f a : Nat) (rs : List (List UInt8)) (rest : List UInt8), l.length < f → b.drop (64 * a) = recsImg g (rs.length + 1) l ++ rest →
    (∀ r ∈ l, r.length ≤ 60000) → rs.length + l.length ≤ 4294967294 → noF g rest → followsN b g f a rs = (a + recsSize l, rs ++ l)
  | [], f + 1, a, rs, rest, _, hd, _, _, hno => by
    have hd' : b.drop (64 * a) = rest := by simpa [recsImg] using hd
    rw [recsSize, List.append_nil, show a + 0 = a from rfl]
    cases hg : getF (b.drop (64 * a)) with
    | none => rw [followsN_none b g f a rs hg]
    | some x =>
      obtain ⟨k, g', q, body⟩ := x
      have := hno k g' q body (by rw [← hd']; exact hg)
      rw [followsN_stop b g f a rs k g' q body hg (by omega)]
  | r :: l, f + 1, a, rs, rest, hf, hd, hb, hq, hno => by
    rw [recsImg, List.append_assoc] at hd
    rw [List.length_cons] at hf hq
    have hr := hb r (List.mem_cons_self ..)
    have hgf : getF (b.drop (64 * a)) = some (2, g, rs.length + 1, r) := by rw [hd]; exact getF_putF 2 g _ r _ (by omega) hg (by omega) hr
    rw [followsN_go b g f a rs 2 g (rs.length + 1) r hgf ⟨rfl, rfl, rfl⟩]
    have hd2 : b.drop (64 * (a + sectorsF r.length)) = recsImg g ((rs ++ [r]).length + 1) l ++ rest := by
      rw [show 64 * (a + sectorsF r.length) = 64 * a + 64 * sectorsF r.length by omega, ← List.drop_drop, hd, ← putF_length 2 g (rs.length + 1) r, List.drop_left, List.length_append]
      rfl
    rw [followsN_img b g N hN hg l f _ (rs ++ [r]) rest (by omega) hd2 (fun x hx => hb x (List.mem_cons_of_mem _ hx)) (by rw [List.length_append, List.length_singleton]; omega) hno]
    rw [recsSize, List.append_assoc]
    simp only [List.singleton_append, Prod.mk.injEq, and_true]
    omega
end Go.Proofs.YtjilbnpehgigjaaGreat

/- Package journal, plain: Append, Compact and Open keep to what the journal says, on a disk without a fuse. -/
namespace Go.Proofs.YtjilbnpehgigjaaGreat
open Go.RowKit
theorem half_room {H N n : Nat} (h : H ≤ 1) (hn : 2 * N ≤ n) : H * N + N ≤ n := by
  rcases (show H = 0 ∨ H = 1 by omega) with rfl | rfl <;> omega
theorem half_apart {H N a b : Nat} (h : H ≤ 1) (ha : a < N) (hb : b < N) : (1 - H) * N + a ≠ H * N + b := by
  rcases (show H = 0 ∨ H = 1 by omega) with rfl | rfl <;> omega
/-- the other half stays -/
theorem secs_other {c c' : List (List UInt8)} {N H K at_ m : Nat} {f : Nat → Option (List UInt8)} (hH : H ≤ 1) (hK : K = 1 - H) (hat : at_ + m ≤ N) (hc : ∀ j, c'[j]? = if H * N + at_ ≤ j ∧ j < H * N + at_ + m then f j else c[j]?) (p : Nat) : secs c' (K * N + p) (N - p) = secs c (K * N + p) (N - p) := by
  subst hK
  refine secs_congr (fun j h1 h2 => ?_)
  rw [hc, if_neg]
  rcases (show H = 0 ∨ H = 1 by omega) with rfl | rfl
  · simp at h1 h2 ⊢; omega
  · simp at h1 h2 ⊢; omega
theorem PI.appends {d : DS} {n N : Nat} {s : JS} (hg : Good d n) (hN : n / 2 = N) (h : PI d.curs N s) (b : List UInt8) (hb : b.length ≤ 60000) (hr : s.at_ + sectorsF b.length ≤ N) :
    ∃ d', s.appends d b = ({ s with recs := s.recs ++ [b], at_ := s.at_ + sectorsF b.length }, d', 0) ∧ Good d' n ∧ d'.pend = [] ∧ PI d'.curs N { s with recs := s.recs ++ [b], at_ := s.at_ + sectorsF b.length } := by
  obtain ⟨hh, hgen, hrl, hal⟩ := h.lim
  have hn2 : 2 * N ≤ n := by rw [← hg.clen]; exact h.room.1
  have hhr := half_room hh hn2
  have hpl := putF_length 2 s.gen (s.recs.length + 1) b
  obtain ⟨l1, l2, l3, l4⟩ := hg.lays (base := s.half * N + s.at_) (m := sectorsF b.length) (b := putF 2 s.gen (s.recs.length + 1) b) (sectorsF_pos _) (by omega) hpl
  refine ⟨_, ?_, l2, l3, ?_⟩
  · unfold JS.appends
    rw [hg.len, hN, if_neg (by rw [h.up, hg.up]; decide), if_neg (by omega), if_neg (by omega), if_pos l1]
  · obtain ⟨o1, o2, o3, o4⟩ := over_ok (H := s.half * N) (N := N) (at_ := s.at_) rfl hr (by rw [hg.clen]; exact hhr) (by rw [l2.clen]; exact hhr) h.all64 l2.all64 l4
    have hown : ∀ G, ∀ p, s.at_ + sectorsF b.length ≤ p → p < N → noF G (secs d.curs (s.half * N + p) (N - p)) → noF G (secs (d.lays (s.half * N + s.at_) (putF 2 s.gen (s.recs.length + 1) b) (sectorsF b.length)).1.curs (s.half * N + p) (N - p)) := fun G p h1 h2 h3 => by rw [o4 p h1 h2]; exact h3
    refine ⟨h.up, ⟨hh, hgen, ?_, hr⟩, h.gen0, ⟨h.bod.1, ?_⟩, ?_, ⟨by rw [l2.clen]; exact hn2, h.room.2⟩, l2.all64, ?_, ?_, ?_, ?_⟩
    · rw [List.length_append, List.length_singleton]; have := sectorsF_pos b.length; simp only; omega
    · intro r hr
      rcases List.mem_append.1 hr with h1 | h1
      · exact h.bod.2 r h1
      · rw [List.mem_singleton.1 h1]; exact hb
    · show s.at_ + sectorsF b.length = s.head + recsSize (s.recs ++ [b])
      rw [recsSize_snoc, h.at_]; omega
    · show secs _ (s.half * N) (s.at_ + sectorsF b.length) = _
      rw [secs_split, o1]
      have e : secs (d.lays (s.half * N + s.at_) (putF 2 s.gen (s.recs.length + 1) b) (sectorsF b.length)).1.curs (s.half * N) s.at_ = s.img := by
        rw [← h.img]
        exact secs_congr (fun j h1 h2 => by rw [l4, if_neg (by omega)])
      rw [e]
      unfold JS.img
      simp only
      rw [recsImg_snoc, List.append_assoc, Nat.add_comm 1]
    · intro p hp
      by_cases h1 : p < s.at_
      · exact o2 p h1 _ (h.own1 p hp)
      · by_cases h2 : p = s.at_
        · subst h2
          intro k g q body hgf
          rw [show N - s.at_ = sectorsF b.length + (N - s.at_ - sectorsF b.length) by omega, secs_split, o1, getF_putF 2 s.gen (s.recs.length + 1) b _ (by omega) hgen (by have := h.room.2; omega) hb] at hgf
          simp only [Option.some.injEq, Prod.mk.injEq] at hgf
          simp only
          omega
        · by_cases h3 : p < s.at_ + sectorsF b.length
          · exact o3 p (by omega) h3 _
          · exact hown _ p (by omega) hp (h.own1 p hp)
    · intro p h1 hp
      exact hown _ p h1 hp (h.own2 p (by simp only at h1; omega) hp)
    · intro p hp
      simp only
      rw [secs_other (f := fun j => some (sectAt (putF 2 s.gen (s.recs.length + 1) b) (j - (s.half * N + s.at_)))) hh rfl hr l4 p]
      exact h.oth p hp
theorem PI.full {d : DS} {n N : Nat} {s : JS} (hg : Good d n) (hN : n / 2 = N) (h : PI d.curs N s) (b : List UInt8) (hb : b.length ≤ 60000) (hr : ¬ s.at_ + sectorsF b.length ≤ N) : s.appends d b = (s, d, 12) := by
  unfold JS.appends
  rw [hg.len, hN, if_neg (by rw [h.up, hg.up]; decide), if_neg (by omega), if_pos (by omega)]
theorem PI.compacts {d : DS} {n N : Nat} {s : JS} (hg : Good d n) (hN : n / 2 = N) (h : PI d.curs N s) (b : List UInt8) (hb : b.length ≤ 60000) (hr : sectorsF b.length ≤ N) (hgm : s.gen < 4294967295) :
    ∃ d', s.compacts d b = ({ s with half := 1 - s.half, gen := s.gen + 1, has := true, pict := b, recs := [], at_ := sectorsF b.length }, d', 0) ∧ Good d' n ∧ d'.pend = [] ∧ PI d'.curs N { s with half := 1 - s.half, gen := s.gen + 1, has := true, pict := b, recs := [], at_ := sectorsF b.length } := by
  obtain ⟨hh, hgen, hrl, hal⟩ := h.lim
  have hn2 : 2 * N ≤ n := by rw [← hg.clen]; exact h.room.1
  have hhr := half_room (H := 1 - s.half) (by omega) hn2
  have hpl := putF_length 1 (s.gen + 1) 0 b
  obtain ⟨l1, l2, l3, l4⟩ := hg.lays (base := (1 - s.half) * N) (m := sectorsF b.length) (b := putF 1 (s.gen + 1) 0 b) (sectorsF_pos _) (by omega) hpl
  refine ⟨_, ?_, l2, l3, ?_⟩
  · unfold JS.compacts
    rw [hg.len, hN, if_neg (by rw [h.up, hg.up]; decide), if_neg (by omega), if_neg (by omega), if_pos hgm, if_pos l1]
  · obtain ⟨o1, o2, o3, o4⟩ := over_ok (H := (1 - s.half) * N) (N := N) (at_ := 0) rfl (by omega) (by rw [hg.clen]; exact hhr) (by rw [l2.clen]; exact hhr) h.all64 l2.all64 l4
    refine ⟨h.up, ⟨by simp only; omega, by simp only; omega, Nat.zero_le _, hr⟩, fun e => by simp at e, ⟨hb, fun r hr => by simp at hr⟩, ?_, ⟨by rw [l2.clen]; exact hn2, h.room.2⟩, l2.all64, ?_, ?_, ?_, ?_⟩
    · show sectorsF b.length = JS.head _ + recsSize []
      simp [JS.head, recsSize]
    · show secs _ ((1 - s.half) * N + 0) (sectorsF b.length) = JS.img _
      rw [o1]
      simp [JS.img, recsImg]
    · intro p hp
      simp only
      by_cases h2 : p = 0
      · subst h2
        intro k g q body hgf
        rw [show N - 0 = sectorsF b.length + (N - sectorsF b.length) by omega, secs_split, o1, getF_putF 1 (s.gen + 1) 0 b _ (by omega) (by omega) (by omega) hb] at hgf
        simp only [Option.some.injEq, Prod.mk.injEq] at hgf
        omega
      · by_cases h3 : p < 0 + sectorsF b.length
        · exact o3 p (by omega) h3 _
        · rw [o4 p (by omega) hp]
          exact (h.oth p hp).mono (by omega)
    · intro p h1 hp
      simp only at h1 ⊢
      rw [o4 p (by omega) hp]
      exact (h.oth p hp).mono (by omega)
    · intro p hp
      simp only
      rw [show 1 - (1 - s.half) = s.half by omega]
      rw [secs_other (f := fun j => some (sectAt (putF 1 (s.gen + 1) 0 b) (j - ((1 - s.half) * N)))) (H := 1 - s.half) (at_ := 0) (m := sectorsF b.length) (by omega) (by omega) (by omega) l4 p]
      exact h.own1 p hp
theorem PI.opens {d : DS} {n N : Nat} {s : JS} (hg : Good d n) (hN : n / 2 = N) (h : PI d.curs N s) : d.opens = s := by
  obtain ⟨hh, hgen, hrl, hal⟩ := h.lim
  have hn2 : 2 * N ≤ n := by rw [← hg.clen]; exact h.room.1
  have hhalf : ∀ H, H ≤ 1 → halfOf d H = secs d.curs (H * N) N := fun H hH => by
    unfold halfOf
    rw [hg.len, hN]
    exact sectorsAt_secs hg _ _ (half_room hH hn2)
  have hfr : JS.fresh d = ⟨false, false, 0, 0, 0, [], []⟩ := by unfold JS.fresh; rw [hg.up]
  have hnil : ∀ H G, H ≤ 1 → (∀ p, p < N → noF G (secs d.curs (H * N + p) (N - p))) → noF G (secs d.curs (H * N) N) := fun H G hH hno => by
    rcases Nat.eq_zero_or_pos N with h0 | h0
    · subst h0
      exact noF_none (getF_mark0 (by simp [secs]))
    · have := hno 0 h0
      rwa [Nat.add_zero, Nat.sub_zero] at this
  have hown : secs d.curs (s.half * N) N = s.img ++ secs d.curs (s.half * N + s.at_) (N - s.at_) := by
    rw [← h.img, ← secs_split]; congr 1; omega
  have hoth := hnil (1 - s.half) s.gen (by omega) h.oth
  have hrest : noF s.gen (secs d.curs (s.half * N + s.at_) (N - s.at_)) := by
    by_cases hl : s.at_ < N
    · exact h.own2 s.at_ (Nat.le_refl _) hl
    · rw [show N - s.at_ = 0 by omega]
      exact noF_none (getF_mark0 (by simp [secs]))
  have hlooks : d.looks = { s with recs := [], at_ := s.head } := by
    unfold DS.looks
    rw [hhalf 0 (by omega), hhalf 1 (by omega), hfr]
    cases hs : s.has with
    | false =>
      obtain ⟨g0, h0, p0⟩ := h.gen0 hs
      rw [h0] at hoth hown hrest
      rw [g0] at hoth hrest
      have e1 : getF (secs d.curs (1 * N) N) = none := by
        cases hx : getF (secs d.curs (1 * N) N) with
        | none => rfl
        | some x => exact absurd (hoth x.1 x.2.1 x.2.2.1 x.2.2.2 hx) (by omega)
      have t0 : (JS.mk false false 0 0 0 [] []).takes 0 (secs d.curs (0 * N) N) = ⟨false, false, 0, 0, 0, [], []⟩ := by
        unfold JS.takes
        cases hrs : s.recs with
        | nil =>
          have : getF (secs d.curs (0 * N) N) = none := by
            rw [hown, JS.img, hs, hrs]
            simp only [Bool.false_eq_true, ↓reduceIte, recsImg, List.append_nil, List.nil_append]
            cases hx : getF (secs d.curs (0 * N + s.at_) (N - s.at_)) with
            | none => rfl
            | some x => exact absurd (hrest x.1 x.2.1 x.2.2.1 x.2.2.2 hx) (by omega)
          rw [this]
        | cons r l =>
          have : getF (secs d.curs (0 * N) N) = some (2, s.gen, 1, r) := by
            rw [hown, JS.img, hs, hrs]
            simp only [Bool.false_eq_true, ↓reduceIte, recsImg, List.nil_append]
            rw [List.append_assoc]
            exact getF_putF 2 s.gen 1 r _ (by omega) hgen (by omega) (h.bod.2 r (by rw [hrs]; exact List.mem_cons_self ..))
          rw [this]
          exact if_neg (by omega)
      rw [t0]
      unfold JS.takes
      rw [e1]
      unfold JS.head
      rw [hs, h.up, g0, h0, p0]
      rfl
    | true =>
      have hog : ∀ H, H = s.half → getF (secs d.curs (H * N) N) = some (1, s.gen, 0, s.pict) := fun H hH => by
        rw [hH, hown, JS.img, hs, if_pos rfl, List.append_assoc]
        exact getF_putF 1 s.gen 0 s.pict _ (by omega) hgen (by omega) h.bod.1
      have hhd : s.head = sectorsF s.pict.length := by unfold JS.head; rw [hs]; rfl
      rw [hhd]
      rcases (show s.half = 0 ∨ s.half = 1 by omega) with e | e
      · have t0 : (JS.mk false false 0 0 0 [] []).takes 0 (secs d.curs (0 * N) N) = ⟨false, true, 0, s.gen, sectorsF s.pict.length, s.pict, []⟩ := by
          unfold JS.takes
          rw [hog 0 e.symm]
          exact if_pos ⟨rfl, rfl, fun x => by simp at x⟩
        rw [t0]
        unfold JS.takes
        rw [e] at hoth
        cases hx : getF (secs d.curs (1 * N) N) with
        | none => simp only; rw [h.up, e]
        | some x =>
          obtain ⟨k, g, q, body⟩ := x
          have := hoth k g q body hx
          simp only
          rw [if_neg (fun x => x.2.2 ⟨trivial, by omega⟩), h.up, e]
      · rw [e] at hoth
        have t0 : ∃ ha g a p, (JS.mk false false 0 0 0 [] []).takes 0 (secs d.curs (0 * N) N) = ⟨false, ha, 0, g, a, p, []⟩ ∧ (ha = true → g < s.gen) := by
          unfold JS.takes
          cases hx : getF (secs d.curs (0 * N) N) with
          | none => exact ⟨_, _, _, _, rfl, fun x => by simp at x⟩
          | some x =>
            obtain ⟨k, g, q, body⟩ := x
            have := hoth k g q body hx
            simp only
            split
            · exact ⟨_, _, _, _, rfl, fun _ => this⟩
            · exact ⟨_, _, _, _, rfl, fun x => by simp at x⟩
        obtain ⟨ha, g, a, p, t0, t1⟩ := t0
        rw [t0]
        unfold JS.takes
        rw [hog 1 e.symm]
        simp only
        rw [if_pos ⟨trivial, trivial, fun x => by have := t1 x.1; omega⟩, h.up, e]
  unfold DS.opens
  rw [if_neg (by rw [hg.up]; decide), hlooks]
  have hlen : (secs d.curs (s.half * N) N).length = 64 * N := secs_length h.all64 _ _ (by rw [hg.clen]; exact half_room hh hn2)
  have hsz := h.at_
  have hrs := recsSize_len s.recs
  have himg : (secs d.curs (s.half * N) N).drop (64 * s.head) = recsImg s.gen (([] : List (List UInt8)).length + 1) s.recs ++ secs d.curs (s.half * N + s.at_) (N - s.at_) := by
    rw [hown, JS.img]
    cases hs : s.has with
    | false => simp [JS.head, hs]
    | true =>
      simp only [JS.head, hs, ↓reduceIte]
      rw [List.append_assoc, ← putF_length 1 s.gen 0 s.pict, List.drop_left]
      rfl
  have hf := followsN_img (secs d.curs (s.half * N) N) s.gen N hlen hgen s.recs (N - s.head + 1) s.head [] _ (by omega) himg h.bod.2 (by have := h.room.2; simp only [List.length_nil]; omega) hrest
  unfold JS.follows
  simp only
  rw [hhalf s.half hh, hlen, Nat.mul_div_cancel_left _ (by omega : 0 < 64), hf, List.nil_append, ← hsz]
end Go.Proofs.YtjilbnpehgigjaaGreat

/- Package journal, plain: laying a frame on a disk with a fuse; what a crash leaves. -/
import Derived.Test.YtjilbnpehgigjaaGreatJLays
import Derived.Test.YtjilbnpehgigjaaGreatJPlainC
import Derived.Test.YtjilbnpehgigjaaGreatDiskC
namespace Go.Proofs.YtjilbnpehgigjaaGreat
open Go.RowKit
/-- a disk that is up; n sectors; whatever fuse -/
structure Up (d : DS) (n : Nat) : Prop where
  up : d.down = false
  len : d.lasts.length = n
  all64 : ∀ x ∈ d.curs, x.length = 64
theorem Up.clen {d : DS} {n : Nat} (h : Up d n) : d.curs.length = n := by rw [curs_length, h.len]
theorem Good.isUp {d : DS} {n : Nat} (h : Good d n) : Up d n := ⟨h.up, h.len, h.all64⟩
theorem DS.burn_parts (d : DS) : d.burn.lasts = d.lasts ∧ d.burn.pend = d.pend ∧ (d.holds = true → d.burn.down = d.down) ∧ (d.holds = false → d.burn.down = true) := by
  unfold DS.burn DS.holds
  split
  · rename_i h; rw [h]; exact ⟨rfl, rfl, fun e => by simp at e, fun _ => rfl⟩
  · rename_i h
    split
    · exact ⟨rfl, rfl, fun _ => rfl, fun e => by simp at e; exact absurd e h⟩
    · exact ⟨rfl, rfl, fun _ => rfl, fun e => by simp at e; exact absurd e h⟩
theorem curs_of (d e : DS) (h1 : e.lasts = d.lasts) (h2 : e.pend = d.pend) : e.curs = d.curs := by
  unfold DS.curs DS.cur
  rw [h1, h2]
/-- one write: it holds, or the power fails and nothing is changed -/
theorem Up.write {d : DS} {n : Nat} (h : Up d n) (i : Nat) (hi : i < n) (l : List UInt8) (hl : l.length = 64) :
    ((d.write ((i : Nat) : Int) l).2 = 0 ∧ Up (d.write ((i : Nat) : Int) l).1 n ∧ (d.write ((i : Nat) : Int) l).1.curs = d.curs.set i l ∧ (d.write ((i : Nat) : Int) l).1.lasts = d.lasts ∧ (d.write ((i : Nat) : Int) l).1.pend = bput d.pend (i : Int) l) ∨
    ((d.write ((i : Nat) : Int) l).2 = 13 ∧ (d.write ((i : Nat) : Int) l).1.down = true ∧ (d.write ((i : Nat) : Int) l).1.lasts = d.lasts ∧ (d.write ((i : Nat) : Int) l).1.pend = d.pend) := by
  have hs : d.sector (i : Int) = 0 := by unfold DS.sector; rw [h.up, h.len]; simp; omega
  obtain ⟨b1, b2, b3, b4⟩ := d.burn_parts
  cases hh : d.holds with
  | true =>
    left
    have hw : d.write ((i : Nat) : Int) l = ({ d.burn with pend := bput d.pend (i : Int) l }, 0) := by
      unfold DS.write
      rw [hs, hh]
      simp [hl]
    have hc : (d.write ((i : Nat) : Int) l).1.curs = d.curs.set i l := by
      rw [hw, ← curs_bput d i l]
      exact curs_of { d with pend := bput d.pend (i : Int) l } { d.burn with pend := bput d.pend (i : Int) l } b1 rfl
    refine ⟨by rw [hw], ⟨by rw [hw]; exact (b3 hh).trans h.up, by rw [hw]; simp only; rw [b1, h.len], ?_⟩, hc, by rw [hw]; exact b1, by rw [hw]⟩
    rw [hc]
    intro x hx
    rcases List.mem_or_eq_of_mem_set hx with h1 | h1
    · exact h.all64 x h1
    · rw [h1, hl]
  | false =>
    right
    have hw : d.write ((i : Nat) : Int) l = (d.burn, 13) := by
      unfold DS.write
      rw [hs, hh]
      simp [hl]
    rw [hw]
    exact ⟨rfl, b4 hh, b1, b2⟩
theorem Up.sync {d : DS} {n : Nat} (h : Up d n) :
    (d.sync.2 = 0 ∧ Up d.sync.1 n ∧ d.sync.1.lasts = d.curs ∧ d.sync.1.pend = [] ∧ d.sync.1.curs = d.curs) ∨
    (d.sync.2 = 13 ∧ d.sync.1.down = true ∧ d.sync.1.lasts = d.lasts ∧ d.sync.1.pend = d.pend) := by
  obtain ⟨b1, b2, b3, b4⟩ := d.burn_parts
  cases hh : d.holds with
  | true =>
    left
    have hw : d.sync = ({ d.burn with lasts := d.curs, pend := [] }, 0) := by
      unfold DS.sync
      rw [h.up, hh, synced_curs]
      simp
    have hc : d.sync.1.curs = d.curs := by rw [hw]; exact curs_none _ _ _
    refine ⟨by rw [hw], ⟨by rw [hw]; exact (b3 hh).trans h.up, by rw [hw]; exact h.clen, by rw [hc]; exact h.all64⟩, by rw [hw], by rw [hw], hc⟩
  | false =>
    right
    have hw : d.sync = (d.burn, 13) := by
      unfold DS.sync
      rw [h.up, hh]
      simp
    rw [hw]
    exact ⟨rfl, b4 hh, b1, b2⟩
/-- an entry of what is pending that is a sector behind the first -/
def IsTailP (base m : Nat) (b : List UInt8) (p : Int × List UInt8) : Prop := ∃ j : Nat, base < j ∧ j < base + m ∧ p = ((j : Int), sectAt b (j - base))
theorem bput_in {m : List (Int × List UInt8)} {k : Int} {l : List UInt8} {p : Int × List UInt8} (h : p ∈ bput m k l) : p ∈ m ∨ p = (k, l) := by
  unfold bput at h
  split at h
  · obtain ⟨q, hq, rfl⟩ := List.mem_map.1 h
    split
    · exact .inr rfl
    · exact .inl hq
  · rcases List.mem_append.1 h with h | h
    · exact .inl h
    · exact .inr (List.mem_singleton.1 h)
theorem Up.tails {n base m : Nat} {b : List UInt8} (hm : base + m ≤ n) (hb : ∀ j, 1 ≤ j → j < m → (sectAt b j).length = 64) : ∀ (f k : Nat) {d : DS}, Up d n → 1 ≤ k → k + f = m → (∀ p ∈ d.pend, IsTailP base m b p) →
    (d.tails base b f k).1.lasts = d.lasts ∧ (∀ p ∈ (d.tails base b f k).1.pend, IsTailP base m b p) ∧
    (((d.tails base b f k).2 = true ∧ Up (d.tails base b f k).1 n ∧ ∀ j, (d.tails base b f k).1.curs[j]? = if base + k ≤ j ∧ j < base + k + f then some (sectAt b (j - base)) else d.curs[j]?) ∨
     ((d.tails base b f k).2 = false ∧ (d.tails base b f k).1.down = true))
  | 0, k, d, h, _, _, hp => ⟨rfl, hp, .inl ⟨rfl, h, fun j => by rw [if_neg (by omega)]; rfl⟩⟩
  | f + 1, k, d, h, hk, hkm, hp => by
    rcases h.write (base + k) (by omega) (sectAt b k) (hb k hk (by omega)) with ⟨h1, h2, h3, h4, h5⟩ | ⟨h1, h2, h3, h4⟩
    · rw [d.tails_go base b f k h1]
      have hp' : ∀ p ∈ (d.write ((base + k : Nat) : Int) (sectAt b k)).1.pend, IsTailP base m b p := fun p hp2 => by
        rw [h5] at hp2
        rcases bput_in hp2 with h | rfl
        · exact hp p h
        · exact ⟨base + k, by omega, by omega, by rw [Nat.add_sub_cancel_left]⟩
      obtain ⟨g1, g2, g3⟩ := Up.tails hm hb f (k + 1) h2 (by omega) (by omega) hp'
      refine ⟨g1.trans h4, g2, g3.imp (fun ⟨e1, e2, e3⟩ => ⟨e1, e2, fun j => ?_⟩) id⟩
      rw [e3 j, h3, List.getElem?_set, h.clen]
      by_cases hj : j = base + k
      · subst hj
        rw [if_neg (by omega), if_pos rfl, if_pos (by omega), if_pos (by omega), Nat.add_sub_cancel_left]
      · by_cases hj2 : base + (k + 1) ≤ j ∧ j < base + (k + 1) + f
        · rw [if_pos hj2, if_pos (by omega)]
        · rw [if_neg hj2, if_neg (fun e => hj e.symm), if_neg (by omega)]
    · rw [d.tails_stop base b f k (by rw [h1]; decide)]
      exact ⟨h3, by rw [h4]; exact hp, .inr ⟨rfl, h2⟩⟩
/-- what is on a disk whose power failed while a frame was laid: sectors behind the first (some of them pending); or all of them, and the first one pending -/
def Torn (d : DS) (c0 : List (List UInt8)) (base m : Nat) (b : List UInt8) : Prop :=
  (∀ j : Nat, d.lasts[j]? = c0[j]? ∨ (base < j ∧ j < base + m ∧ d.lasts[j]? = some (sectAt b (j - base)))) ∧
  ((∀ p ∈ d.pend, IsTailP base m b p) ∨
   ((∀ j : Nat, d.lasts[j]? = if base < j ∧ j < base + m then some (sectAt b (j - base)) else c0[j]?) ∧ d.pend = [((base : Int), sectAt b 0)]))
theorem bput_nil (k : Int) (l : List UInt8) : bput [] k l = [(k, l)] := rfl
/-- laying a frame's bytes on a disk that is up and has nothing pending -/
theorem Up.lays {n base m : Nat} {b : List UInt8} {d : DS} (h : Up d n) (hp : d.pend = []) (hm : 1 ≤ m) (hb : base + m ≤ n) (hl : b.length = 64 * m) :
    ((d.lays base b m).2 = true ∧ Up (d.lays base b m).1 n ∧ (d.lays base b m).1.pend = [] ∧ ∀ j : Nat, (d.lays base b m).1.curs[j]? = if base ≤ j ∧ j < base + m then some (sectAt b (j - base)) else d.lasts[j]?) ∨
    ((d.lays base b m).2 = false ∧ (d.lays base b m).1.down = true ∧ (d.lays base b m).1.lasts.length = n ∧ Torn (d.lays base b m).1 d.lasts base m b) := by
  have h64 : ∀ j, j < m → (sectAt b j).length = 64 := fun j hj => by unfold sectAt; rw [List.length_take, List.length_drop, hl]; omega
  have hc0 : d.curs = d.lasts := by obtain ⟨l, p, f, dn⟩ := d; simp only at hp; subst hp; exact curs_none _ _ _
  obtain ⟨t1, t2, t3⟩ := Up.tails (base := base) (b := b) (m := m) hb (fun j _ hj => h64 j hj) (m - 1) 1 h (Nat.le_refl _) (by omega) (by rw [hp]; intro p hp; cases hp)
  have hlen : (d.lays base b m).1.lasts.length = n := by
    have : ∀ e : DS, (e.heads base b m).1.lasts.length = e.lasts.length := fun e => by
      have e1 : (if 1 < m then e.sync.1 else e).lasts.length = e.lasts.length := by split; exact e.sync_len; rfl
      unfold DS.heads
      split
      · exact e.sync_len
      · revert e1
        generalize (if 1 < m then e.sync.1 else e) = g
        intro e1
        split
        · rw [← e1]; exact DS.write_len ..
        · rw [← e1]; exact (DS.sync_len _).trans (DS.write_len ..)
    unfold DS.lays
    split
    · (try simp only); rw [this, t1, h.len]
    · (try simp only); rw [t1, h.len]
  rcases t3 with ⟨t4, t5, t6⟩ | ⟨t4, t5⟩
  · have hlays : d.lays base b m = (d.tails base b (m - 1) 1).1.heads base b m := by unfold DS.lays; rw [if_pos t4]
    rw [hlays] at hlen ⊢
    revert t1 t2 t5 t6 hlen
    generalize (d.tails base b (m - 1) 1).1 = e
    intro t1 t2 hlen t5 t6
    rw [hc0] at t6
    have t6' : ∀ j : Nat, e.curs[j]? = if base < j ∧ j < base + m then some (sectAt b (j - base)) else d.lasts[j]? := fun j => by
      rw [t6 j]
      by_cases hj : base < j ∧ j < base + m
      · rw [if_pos hj, if_pos (by omega)]
      · rw [if_neg hj, if_neg (by omega)]
    -- the sync between
    have hmid : (1 < m ∧ e.sync.2 = 13 ∧ e.sync.1.down = true ∧ e.sync.1.lasts = d.lasts ∧ e.sync.1.pend = e.pend) ∨
        (¬ (1 < m ∧ e.sync.2 ≠ 0) ∧ Up (if 1 < m then e.sync.1 else e) n ∧ (if 1 < m then e.sync.1 else e).lasts = e.curs ∧ (if 1 < m then e.sync.1 else e).pend = [] ∧ (if 1 < m then e.sync.1 else e).curs = e.curs) := by
      by_cases h1 : 1 < m
      · rw [if_pos h1]
        rcases t5.sync with ⟨s1, s2, s3, s4, s5⟩ | ⟨s1, s2, s3, s4⟩
        · exact .inr ⟨fun x => x.2 s1, s2, s3, s4, s5⟩
        · exact .inl ⟨h1, s1, s2, s3.trans t1, s4⟩
      · rw [if_neg h1]
        have hep : e.pend = [] := by
          rcases he : e.pend with _ | ⟨p, r⟩
          · rfl
          · obtain ⟨j, j1, j2, -⟩ := t2 p (by rw [he]; exact List.mem_cons_self ..)
            omega
        have hce : e.curs = e.lasts := by obtain ⟨l, p, f, dn⟩ := e; simp only at hep; subst hep; exact curs_none _ _ _
        exact .inr ⟨fun x => h1 x.1, t5, hce.symm, hep, rfl⟩
    rcases hmid with ⟨m1, m2, m3, m4, m5⟩ | ⟨m1, m2, m3, m4, m5⟩
    · right
      have hh : e.heads base b m = (e.sync.1, false) := by unfold DS.heads; rw [if_pos ⟨m1, by rw [m2]; decide⟩]
      rw [hh] at hlen ⊢
      exact ⟨rfl, m3, hlen, fun j => .inl (by rw [m4]), .inl (by rw [m5]; exact t2)⟩
    · have hh : e.heads base b m = if ((if 1 < m then e.sync.1 else e).write (base : Int) (sectAt b 0)).2 ≠ 0 then (((if 1 < m then e.sync.1 else e).write (base : Int) (sectAt b 0)).1, false) else
          ((((if 1 < m then e.sync.1 else e).write (base : Int) (sectAt b 0)).1).sync.1, decide ((((if 1 < m then e.sync.1 else e).write (base : Int) (sectAt b 0)).1).sync.2 = 0)) := by unfold DS.heads; rw [if_neg m1]
      rw [hh] at hlen ⊢
      clear hh m1
      revert m2 m3 m4 m5 hlen
      generalize (if 1 < m then e.sync.1 else e) = g
      intro hlen m2 m3 m4 m5
      have hgl : ∀ j : Nat, g.lasts[j]? = if base < j ∧ j < base + m then some (sectAt b (j - base)) else d.lasts[j]? := fun j => by rw [m3]; exact t6' j
      have hgt : ∀ j : Nat, g.lasts[j]? = d.lasts[j]? ∨ (base < j ∧ j < base + m ∧ g.lasts[j]? = some (sectAt b (j - base))) := fun j => by
        rw [hgl j]
        by_cases hj : base < j ∧ j < base + m
        · exact .inr ⟨hj.1, hj.2, if_pos hj⟩
        · exact .inl (if_neg hj)
      rcases m2.write base (by omega) (sectAt b 0) (h64 0 (by omega)) with ⟨w1, w2, w3, w4, w5⟩ | ⟨w1, w2, w3, w4⟩
      · rw [if_neg (by rw [w1]; decide)] at hlen ⊢
        rw [m4, bput_nil] at w5
        rcases w2.sync with ⟨s1, s2, s3, s4, s5⟩ | ⟨s1, s2, s3, s4⟩
        · left
          refine ⟨by simp only; rw [s1]; decide, s2, s4, fun j => ?_⟩
          simp only
          rw [s5, w3, m5, List.getElem?_set, t5.clen, t6' j]
          by_cases hj : j = base
          · subst hj
            rw [if_pos rfl, if_pos (by omega), if_pos (by omega), Nat.sub_self]
          · rw [if_neg (fun x => hj x.symm)]
            by_cases hj2 : base < j ∧ j < base + m
            · rw [if_pos hj2, if_pos (by omega)]
            · rw [if_neg hj2, if_neg (by omega)]
        · right
          refine ⟨by simp only; rw [s1]; decide, s2, hlen, fun j => ?_, .inr ⟨fun j => ?_, ?_⟩⟩
          · simp only; rw [s3, w4]; exact hgt j
          · simp only; rw [s3, w4]; exact hgl j
          · simp only; rw [s4, w5]
      · right
        rw [if_pos (by rw [w1]; decide)] at hlen ⊢
        exact ⟨rfl, w2, hlen, fun j => by simp only; rw [w3]; exact hgt j, .inl (by simp only; rw [w4, m4]; intro p hp; cases hp)⟩
  · right
    have hlays : d.lays base b m = ((d.tails base b (m - 1) 1).1, false) := by unfold DS.lays; rw [if_neg (by rw [t4]; decide)]
    rw [hlays] at hlen ⊢
    exact ⟨rfl, t5, hlen, fun j => .inl (by simp only; rw [t1]), .inl t2⟩
/-- a crash: each sector is as it lasted, or as it was pending -/
theorem at_mem {d : DS} {k : Int} (h : k ∈ d.pend.map (·.1)) : (k, d.at k) ∈ d.pend := by
  unfold DS.at
  obtain ⟨p, hp, rfl⟩ := List.mem_map.1 h
  cases hf : d.pend.find? (fun q => q.1 == p.1) with
  | none => exact absurd (List.find?_eq_none.1 hf p hp) (by simp)
  | some q =>
    have h1 := List.mem_of_find?_eq_some hf
    have h2 := List.find?_some hf
    simp only [beq_iff_eq] at h2
    rw [← h2]
    exact h1
theorem layTo_each (d : DS) (keep : List Bool) (hk : ∀ p ∈ d.pend, 0 ≤ p.1) : ∀ m, m ≤ d.dirt.length → ∀ j : Nat, (d.layTo keep m)[j]? = d.lasts[j]? ∨ (((j : Int), d.at (j : Int)) ∈ d.pend ∧ (d.layTo keep m)[j]? = some (d.at (j : Int)))
  | 0, _, j => .inl rfl
  | m + 1, hm, j => by
    have ih := layTo_each d keep hk m (by omega) j
    unfold DS.layTo
    split
    · have hmem : d.dirt.getD m 0 ∈ d.pend.map (·.1) := by
        rw [← dirt_mem, List.getD_eq_getElem?_getD, List.getElem?_eq_getElem (by omega)]
        exact List.getElem_mem _
      have ha := at_mem hmem
      have h0 := hk _ ha
      obtain ⟨q, hq⟩ : ∃ q : Nat, d.dirt.getD m 0 = (q : Int) := Int.eq_ofNat_of_zero_le h0
      rw [hq] at ha ⊢
      rw [Int.toNat_natCast, List.getElem?_set, DS.layTo_length]
      by_cases hj : q = j
      · subst hj
        rw [if_pos rfl]
        by_cases hl : q < d.lasts.length
        · rw [if_pos hl]; exact .inr ⟨ha, rfl⟩
        · rw [if_neg hl, List.getElem?_eq_none (by omega)]; exact .inl rfl
      · rw [if_neg hj]; exact ih
    · exact ih
theorem crash_each (d : DS) (keep : List Bool) (hk : ∀ p ∈ d.pend, 0 ≤ p.1) (j : Nat) : (d.crash keep).lasts[j]? = d.lasts[j]? ∨ (((j : Int), d.at (j : Int)) ∈ d.pend ∧ (d.crash keep).lasts[j]? = some (d.at (j : Int))) :=
  layTo_each d keep hk _ (Nat.le_refl _) j
/-- behind a crash of a torn frame: what was there and sectors behind the first; or the whole frame -/
theorem Torn.crash {d : DS} {c0 : List (List UInt8)} {base m : Nat} {b : List UInt8} (h : Torn d c0 base m b) (hm : 1 ≤ m) (hb : base + m ≤ c0.length) (keep : List Bool) :
    (∀ j : Nat, (d.crash keep).lasts[j]? = c0[j]? ∨ (base < j ∧ j < base + m ∧ (d.crash keep).lasts[j]? = some (sectAt b (j - base)))) ∨
    (∀ j : Nat, (d.crash keep).lasts[j]? = if base ≤ j ∧ j < base + m then some (sectAt b (j - base)) else c0[j]?) := by
  obtain ⟨h1, h2 | ⟨h2, h3⟩⟩ := h
  · left
    intro j
    rcases crash_each d keep (fun p hp => by obtain ⟨j, _, _, rfl⟩ := h2 p hp; simp) j with e | ⟨e1, e2⟩
    · rw [e]; exact h1 j
    · obtain ⟨i, i1, i2, hi⟩ := h2 _ e1
      simp only [Prod.mk.injEq] at hi
      obtain ⟨hij, ha⟩ := hi
      obtain rfl : j = i := by omega
      rw [e2, ha]
      exact .inr ⟨i1, i2, rfl⟩
  · have hk : ∀ p ∈ d.pend, 0 ≤ p.1 := fun p hp => by rw [h3] at hp; rw [List.mem_singleton.1 hp]; simp
    have hpend : ∀ j : Nat, ((j : Int), d.at (j : Int)) ∈ d.pend → j = base ∧ d.at (j : Int) = sectAt b 0 := fun j hj => by
      rw [h3] at hj
      have := List.mem_singleton.1 hj
      simp only [Prod.mk.injEq] at this
      exact ⟨by omega, this.2⟩
    rcases crash_each d keep hk base with e | ⟨e1, e2⟩
    · left
      intro j
      rcases crash_each d keep hk j with e' | ⟨e1', e2'⟩
      · rw [e']; exact h1 j
      · obtain ⟨rfl, -⟩ := hpend j e1'
        rw [e]; exact h1 j
    · right
      intro j
      rcases crash_each d keep hk j with e' | ⟨e1', e2'⟩
      · by_cases hj : j = base
        · subst hj
          rw [if_pos (by omega), e2, (hpend j e1).2, Nat.sub_self]
        · rw [e', h2 j]
          by_cases hj2 : base < j ∧ j < base + m
          · rw [if_pos hj2, if_pos (by omega)]
          · rw [if_neg hj2, if_neg (by omega)]
      · obtain ⟨rfl, ha⟩ := hpend j e1'
        rw [if_pos (by omega), e2', ha, Nat.sub_self]
end Go.Proofs.YtjilbnpehgigjaaGreat

/- cfllaw8: a journal that a statement plays with; the disk that is new; first. -/
import Derived.Test.YtjilbnpehgigjaaGreatJOpenB
import Derived.Test.YtjilbnpehgigjaaGreatJAppend
import Derived.Test.YtjilbnpehgigjaaGreatJPlainD
import Derived.Test.YtjilbnpehgigjaaGreatJPic
import Derived.Test.YtjilbnpehgigjaaGreatRefLists
import Derived.Test.YtjilbnpehgigjaaGreatJLast
namespace Go.Proofs.YtjilbnpehgigjaaGreat
open Go.RowKit
theorem mem_secs {c : List (List UInt8)} {base k : Nat} {x : UInt8} (h : x ∈ secs c base k) : ∃ l ∈ c, x ∈ l := by
  unfold secs at h
  obtain ⟨l, h1, h2⟩ := List.mem_flatten.1 h
  exact ⟨l, List.mem_of_mem_drop (List.mem_of_mem_take h1), h2⟩
theorem freshDisk_good (n : Nat) : Good (freshDisk n) n := by
  have hc : (freshDisk n).curs = List.replicate n zeros64 := curs_none _ _ _
  refine ⟨rfl, rfl, by simp [freshDisk], ?_⟩
  rw [hc]
  intro x hx
  rw [(List.mem_replicate.1 hx).2]
  simp [zeros64]
theorem freshDisk_PI (n N : Nat) (hN : n / 2 = N) (hn : n ≤ 8192) : PI (freshDisk n).curs N (JS.fresh (freshDisk n)) := by
  have hg := freshDisk_good n
  have hc : (freshDisk n).curs = List.replicate n zeros64 := curs_none _ _ _
  have hz : ∀ G base k, noF G (secs (freshDisk n).curs base k) := fun G base k => noF_none (getF_mark0 (fun e => by
    have hm := List.mem_of_getElem? e
    rw [hc] at hm
    obtain ⟨l, h1, h2⟩ := mem_secs hm
    rw [(List.mem_replicate.1 h1).2] at h2
    have := (List.mem_replicate.1 h2).2
    exact absurd this (by decide)))
  exact ⟨rfl, ⟨Nat.zero_le _, Nat.zero_le _, Nat.le_refl _, Nat.zero_le _⟩, fun _ => ⟨rfl, rfl, rfl⟩, ⟨Nat.zero_le _, fun r hr => by simp [JS.fresh] at hr⟩, rfl, ⟨by rw [hg.clen]; omega, by omega⟩, hg.all64, by simp [JS.fresh, secs, JS.img, recsImg], fun p _ => hz _ _ _, fun p _ _ => hz _ _ _, fun p _ => hz _ _ _⟩
theorem IsDT.of {F C : Nat → Prop} {w : World} {tb db bl bm : Nat} {d : DS} (hd : IsDisk w db bl bm C d) (ht : IsTab w tb) (hC : ∀ k, foot db bl bm C k → k < w.heap.size → F k ∧ k ≠ tb) : IsDT F w tb db bl bm d := by
  obtain ⟨vl, h1, _⟩ := hd.lasts
  obtain ⟨vm, h4, _⟩ := hd.pend
  have a1 := heap_lt hd.obj
  have a2 := heap_lt h1
  have a3 := h4.lt
  refine ⟨ht, _, hd.here, fun k hk => ?_⟩
  have hlt : k < w.heap.size := by
    rcases hk with h | h | h | h
    · omega
    · omega
    · omega
    · exact h.2
  have hf : foot db bl bm C k := by
    rcases hk with h | h | h | h
    · exact .inl h
    · exact .inr (.inl h)
    · exact .inr (.inr (.inl h))
    · exact .inr (.inr (.inr h.1))
  exact ⟨(hC k hf hlt).1, (hC k hf hlt).2, hlt⟩
/-- the journal's methods that only tell, by IsJD -/
theorem jdPicture {F : Nat → Prop} {jb tb db bl bm : Nat} {s : JS} {d : DS} {w : World} (h : IsJD F w jb tb db bl bm s d) (hl : s.pict.length ≤ 60000) :
    Calls Tryz.prog 15 #[.pointer (some ⟨jb, 0, none⟩)] w fun e w' => ∃ p c, e = .returned (.tuple #[.slice p s.pict.length c, .bool s.has]) ∧ IsVec (fun k => w.heap.size ≤ k) w' 5 1 (.slice p s.pict.length c) s.pict.length (bys s.pict) ∧ Mod nil w w' := by
  obtain ⟨S, C, hj, -⟩ := h.ex
  exact jPicture S jb tb db s w hj hl
theorem jdRecordsC {F : Nat → Prop} {jb tb db bl bm : Nat} {s : JS} {d : DS} {w : World} (h : IsJD F w jb tb db bl bm s d) (hl : ∀ r ∈ s.recs, r.length ≤ 60000) (hn : s.recs.length ≤ 100000) :
    Calls Tryz.prog 13 #[.pointer (some ⟨jb, 0, none⟩)] w fun e w' => ∃ p c, e = .returned (.slice p s.recs.length c) ∧ IsTextsC (fun k => w.heap.size ≤ k) w' (.slice p s.recs.length c) s.recs.length s.recs ∧ Mod nil w w' := by
  obtain ⟨S, C, hj, hd, -⟩ := h.ex
  refine (jRecords S jb tb db s w hj hl hn).mono ?_
  rintro e w' ⟨v, rfl, hv, hm⟩
  obtain ⟨p, c, rfl⟩ := hv.form
  exact ⟨p, c, rfl, hv, hm⟩
theorem jdRecords {F : Nat → Prop} {jb tb db bl bm : Nat} {s : JS} {d : DS} {w : World} (h : IsJD F w jb tb db bl bm s d) (hl : ∀ r ∈ s.recs, r.length ≤ 60000) (hn : s.recs.length ≤ 100000) :
    Calls Tryz.prog 13 #[.pointer (some ⟨jb, 0, none⟩)] w fun e w' => ∃ p c, e = .returned (.slice p s.recs.length c) ∧ IsTexts (fun k => w.heap.size ≤ k) w' (.slice p s.recs.length c) s.recs.length s.recs ∧ Mod nil w w' := by
  obtain ⟨S, C, hj, -⟩ := h.ex
  refine (jRecords S jb tb db s w hj hl hn).mono ?_
  rintro e w' ⟨v, rfl, hv, hm⟩
  obtain ⟨p, c, rfl⟩ := hv.form
  exact ⟨p, c, rfl, hv.texts, hm⟩
theorem jdGen {F : Nat → Prop} {jb tb db bl bm : Nat} {s : JS} {d : DS} {w : World} (h : IsJD F w jb tb db bl bm s d) :
    Calls Tryz.prog 29 #[.pointer (some ⟨jb, 0, none⟩)] w fun e w' => e = .returned (.int .i64 s.gen) ∧ w = w' := by
  obtain ⟨S, C, hj, -⟩ := h.ex
  exact jGen S jb tb db s w hj
theorem jdRoom {F : Nat → Prop} {jb tb db bl bm : Nat} {s : JS} {d : DS} {w : World} (h : IsJD F w jb tb db bl bm s d) (ha : s.at_ ≤ d.lasts.length / 2) :
    Calls Tryz.prog 30 #[.pointer (some ⟨jb, 0, none⟩)] w fun e w' => e = .returned (.int .i64 ((d.lasts.length / 2 - s.at_ : Nat) : Int)) ∧ Mod nil w w' := by
  obtain ⟨S, C, hj, hd, -⟩ := h.ex
  refine (jRoom S jb tb db bl bm C d s w hj hd (by have := hd.room; omega)).mono ?_
  rintro e w' ⟨rfl, n, rfl⟩
  exact ⟨by congr 2; omega, (Mod.refl _ _).drewN n⟩
theorem IsTab.modAt {w w' : World} {tb : Nat} (h : IsTab w tb) (m : Mod nil w w') : IsTab w' tb := h.mod m (not_nil _)
set_option maxHeartbeats 1000000 in
theorem jFirst (w : World) : Calls Tryz.prog 5 #[] w fun e w' => e = .returned (.bool true) ∧ Mod nil w w' := by
  refine (?_ : ∀ Post : Ending → World → Prop, Hid (∀ e w', (e = .returned (.bool true) ∧ Mod nil w w') → Post e w') → Calls Tryz.prog 5 #[] w Post) _ (Lib.hid (fun _ _ h => h))
  intro Post HPOST
  go_enter Tryz.func5, Tryz.ntmps5
  go_wp2_with fail
  refine (diskNew 8 w (by omega) (by omega)).mono ?_
  rintro e w1 ⟨db, bl, bm, C, rfl, hd1, hfoot, hm1⟩
  obtain ⟨d, hd⟩ : ∃ d, freshDisk 8 = d := ⟨_, rfl⟩
  have HG : Hid (Good d 8) := Lib.hid (by rw [← hd]; exact freshDisk_good 8)
  have HP : Hid (PI d.curs 4 (JS.fresh d)) := Lib.hid (by rw [← hd]; exact freshDisk_PI 8 4 rfl (by omega))
  rw [hd] at hd1
  clear hd
  go_wp2_with fail
  refine (shaNewTable w1).mono ?_
  rintro e w2 ⟨tb, rfl, ht2, htb, hm2⟩
  have HDT : Hid (IsDT (fun k => w.heap.size ≤ k) w2 tb db bl bm d) := Lib.hid (IsDT.of (hd1.here.modNil hm2) ht2 (fun k hk _ => by
    obtain ⟨vl, h1, _⟩ := hd1.lasts
    obtain ⟨vm, h4, _⟩ := hd1.pend
    have a1 := heap_lt hd1.obj
    have a2 := heap_lt h1
    have a3 := h4.lt
    have q1 := hfoot db (.inl rfl)
    have q2 := hfoot bl (.inr (.inl rfl))
    have q3 := hfoot bm (.inr (.inr (.inl rfl)))
    rcases hk with h | h | h | h
    · omega
    · omega
    · omega
    · have := h.2; have := hfoot k (.inr (.inr (.inr h.1))); omega))
  have HM2 : Hid (Mod nil w w2) := Lib.hid (hm1.thenNil hm2)
  have htb0 : w.heap.size ≤ tb := Nat.le_trans hm1.size htb
  clear hd1 hfoot hm1 ht2 hm2 htb
  go_wp2_with fail
  refine (jOpen _ tb db bl bm d w2 HDT.out).mono ?_
  rintro e w3 ⟨jb, rfl, hjb, hj3, hm3⟩
  have hop := HP.out.opens HG.out rfl
  rw [hop] at hj3
  have HJ3 := Lib.hid hj3
  have HM3 : Hid (Mod nil w w3) := Lib.hid (HM2.out.new hm3 (fun k h => by rw [h]; exact htb0))
  clear hj3 hm3 hop
  go_wp2_with fail
  refine (jdPicture HJ3.out (by simp [JS.fresh])).mono ?_
  rintro e w4 ⟨p4, c4, rfl, -, hm4⟩
  rw [show (JS.fresh d).has = false from rfl, show (JS.fresh d).pict.length = 0 from rfl]
  have HJ4 := Lib.hid (HJ3.out.modNil hm4)
  have HM4 := Lib.hid (HM3.out.thenNil hm4)
  clear hm4
  go_wp2_with fail
  refine (jdRecords HJ4.out (by simp [JS.fresh]) (by simp [JS.fresh])).mono ?_
  rintro e w5 ⟨p5, c5, rfl, -, hm5⟩
  rw [show (JS.fresh d).recs.length = 0 from rfl]
  have HJ5 := Lib.hid (HJ4.out.modNil hm5)
  have HM5 := Lib.hid (HM4.out.thenNil hm5)
  clear hm5
  go_wp2_with fail
  refine (jdGen HJ5.out).mono ?_
  rintro e w6 ⟨rfl, rfl⟩
  rw [show (JS.fresh d).gen = 0 from rfl]
  go_wp2_with fail
  refine (jdRoom HJ5.out (Nat.zero_le _)).mono ?_
  rw [HG.out.len, show (JS.fresh d).at_ = 0 from rfl]
  rintro e w7 ⟨rfl, hm7⟩
  have HE := Lib.hid (HPOST.out _ _ ⟨rfl, HM5.out.thenNil hm7⟩)
  clear hm7
  go_wp2_with fail
  exact HE.out
end Go.Proofs.YtjilbnpehgigjaaGreat

/- A journal without a picture over a disk with a fuse: what a crash leaves; Fuse and Crash by the journal's disk. -/
namespace Go.Proofs.YtjilbnpehgigjaaGreat
open Go.RowKit
theorem curs_pend {d : DS} (h : d.pend = []) : d.curs = d.lasts := by
  obtain ⟨l, p, f, dn⟩ := d
  simp only at h
  subst h
  exact curs_none _ _ _
/-- a record that has room, on a disk without a fuse -/
theorem PL.sure {d : DS} {n N : Nat} {s : JS} (hg : Good d n) (hp : d.pend = []) (hN : n / 2 = N) (h : PL d.lasts N s) (b : List UInt8) (hb : b.length ≤ 60000) (hr : s.at_ + sectorsF b.length ≤ N) :
    ∃ d', s.appends d b = (s.grow b, d', 0) ∧ Good d' n ∧ d'.pend = [] ∧ PL d'.lasts N (s.grow b) := by
  obtain ⟨g0, g1, g2, g3, g4⟩ := h.gen
  have hn2 : 2 * N ≤ n := by have := h.room.1; rw [hg.len] at this; exact this
  obtain ⟨l1, l2, l3, -⟩ := hg.lays (base := s.at_) (m := sectorsF b.length) (b := putF 2 s.gen (s.recs.length + 1) b) (sectorsF_pos _) (by omega) (putF_length _ _ _ _)
  have happ : s.appends d b = (s.grow b, (d.lays s.at_ (putF 2 s.gen (s.recs.length + 1) b) (sectorsF b.length)).1, 0) := by
    unfold JS.appends JS.grow
    rw [if_neg (by rw [g2, hg.up]; decide), if_neg (by omega), hg.len, hN, if_neg (by omega), g1, Nat.zero_mul, Nat.zero_add, if_pos l1]
  rcases PL.appends hg.isUp hp hN h b with ⟨h1, -⟩ | ⟨-, h2⟩ | ⟨d', h1, h2, h3, h4⟩ | ⟨s', d', h1, -⟩
  · omega
  · rw [happ] at h2
    have := congrArg (fun x => x.2.2) h2
    simp at this
  · rw [happ] at h1
    have := congrArg (fun x => x.2.1) h1
    simp only at this
    rw [← this] at h3 h4
    exact ⟨_, happ, l2, h3, h4⟩
  · rw [happ] at h1
    have := congrArg (fun x => x.2.2) h1
    simp at this
theorem crash_still {d : DS} {n N : Nat} {s : JS} (hl : d.lasts.length = n) (hp : d.pend = []) (h : PL d.lasts N s) (keep : List Bool) : Good (d.crash keep) n ∧ (d.crash keep).pend = [] ∧ PL (d.crash keep).lasts N s := by
  have e : (d.crash keep).lasts = d.lasts := by
    show d.layTo keep d.dirt.length = _
    rw [dirt_length, hp]; rfl
  have hc : (d.crash keep).curs = (d.crash keep).lasts := curs_none _ _ _
  refine ⟨⟨rfl, rfl, by rw [e, hl], fun x hx => ?_⟩, rfl, by rw [e]; exact h⟩
  rw [hc, e] at hx
  exact h.all64 x hx
theorem crash_good {d : DS} {n N : Nat} {s : JS} (hl : d.lasts.length = n) (h : PL d.lasts N s) (hd : d.down = false) (hf : d.fuse = -1) (hp : d.pend = []) : Good d n :=
  ⟨hd, hf, hl, fun x hx => by rw [curs_pend hp] at hx; exact h.all64 x hx⟩
/-- a long record torn anywhere: it is there, or the journal is as it was -/
theorem PL.spell {d : DS} {n N : Nat} {s : JS} (hg : Good d n) (hp : d.pend = []) (hN : n / 2 = N) (h : PL d.lasts N s) (f : Int) (b : List UInt8) (keep : List Bool) :
    Good ((s.appends { d with fuse := f } b).2.1.crash keep) n ∧ ((s.appends { d with fuse := f } b).2.1.crash keep).pend = [] ∧
    ((PL ((s.appends { d with fuse := f } b).2.1.crash keep).lasts N s ∧ (s.appends { d with fuse := f } b).2.2 ≠ 0) ∨ (PL ((s.appends { d with fuse := f } b).2.1.crash keep).lasts N (s.grow b) ∧ b.length ≤ 60000)) := by
  have hu : Up { d with fuse := f } n := ⟨hg.up, hg.len, fun x hx => hg.all64 x (by rw [curs_of d { d with fuse := f } rfl rfl] at hx; exact hx)⟩
  have hbl : (s.appends { d with fuse := f } b).2.2 = 0 → b.length ≤ 60000 := fun e => by
    rcases Nat.lt_or_ge 60000 b.length with hb | hb
    · obtain ⟨g0, g1, g2, g3, g4⟩ := h.gen
      unfold JS.appends at e
      rw [if_neg (by rw [g2]; simp [hg.up]), if_pos hb] at e
      simp at e
    · exact hb
  rcases PL.appends hu hp hN h b with ⟨-, h1⟩ | ⟨-, h1⟩ | ⟨d', h1, h2, h3, h4⟩ | ⟨s', d', h1, h2⟩
  · rw [h1]
    obtain ⟨a1, a2, a3⟩ := crash_still (d := { d with fuse := f }) hg.len hp h keep
    exact ⟨a1, a2, .inl ⟨a3, by simp⟩⟩
  · rw [h1]
    obtain ⟨a1, a2, a3⟩ := crash_still (d := { d with fuse := f }) hg.len hp h keep
    exact ⟨a1, a2, .inl ⟨a3, by simp⟩⟩
  · have hb := hbl (by rw [h1])
    rw [h1]
    obtain ⟨a1, a2, a3⟩ := crash_still h2.len h3 h4 keep
    exact ⟨a1, a2, .inr ⟨a3, hb⟩⟩
  · rw [h1]
    obtain ⟨a1, a2⟩ := h2 keep
    have hc : (d'.crash keep).curs = (d'.crash keep).lasts := curs_none _ _ _
    refine ⟨⟨rfl, rfl, a1, fun x hx => ?_⟩, rfl, ?_⟩
    · rw [hc] at hx
      rcases a2 with a2 | a2
      · exact a2.all64 x hx
      · exact a2.all64 x hx
    · rcases a2 with a2 | a2
      · exact .inl ⟨a2, by simp⟩
      · refine .inr ⟨a2, a2.bod b ?_⟩
        simp [JS.grow]
theorem jdFuse (F : Nat → Prop) (jb tb db bl bm : Nat) (s : JS) (d : DS) (n : Int) (w : World) (h : IsJD F w jb tb db bl bm s d) (hn : n ≤ 9223372036854775807) :
    Calls Tryz.prog 11 #[.pointer (some ⟨db, 0, none⟩), .int .i64 n] w fun e w' => e = .returned (.tuple #[]) ∧ IsJD F w' jb tb db bl bm s { d with fuse := max n (-1) } ∧ Mod F w w' := by
  obtain ⟨S, C, j1, j2, j3, j4⟩ := h.ex
  have hfd : foot db bl bm C db := .inl rfl
  have hF := j4 db (.inr hfd)
  refine (diskFuse db bl bm C d n w j2 hn).mono ?_
  rintro e w' ⟨rfl, hd', hm⟩
  exact ⟨rfl, ⟨h.tab.mod hm (fun e => hF.2.1 e.symm), S, C, j1.mod hm (fun k _ hs e => j3 k hs (.inl e)), hd', j3, fun k h => ⟨(j4 k h).1, (j4 k h).2.1, Nat.lt_of_lt_of_le (j4 k h).2.2 hm.size⟩⟩, hm.mono (fun k _ e => by rw [e]; exact hF.1)⟩
theorem jdCrash (F T : Nat → Prop) (tb db bl bm : Nat) (d : DS) (v : Value) (keep : List Bool) (w : World) (h : IsDT F w tb db bl bm d) (hv : IsRow T w v (keep.map Value.bool)) (hT : ∀ k, T k → ¬ F k) (hkl : keep.length ≤ 9223372036854775807) :
    Calls Tryz.prog 12 #[.pointer (some ⟨db, 0, none⟩), v] w fun e w' => e = .returned (.tuple #[]) ∧ IsDT F w' tb db bl bm (d.crash keep) ∧ Mod (fun k => F k ∧ ¬ k = tb) w w' := by
  obtain ⟨ht, C, hd, hk⟩ := h
  have hfd := hk db (.inl rfl)
  have hfl := hk bl (.inr (.inl rfl))
  have hfm := hk bm (.inr (.inr (.inl rfl)))
  refine (diskCrash db bl bm C T d v keep w hd hv ⟨fun h => hT _ h hfd.1, fun h => hT _ h hfl.1⟩ hkl).mono ?_
  rintro e w' ⟨rfl, hd', hm⟩
  have hm' : Mod (fun k => F k ∧ ¬ k = tb) w w' := hm.mono (fun k _ h => by rcases h with rfl | rfl | rfl; exact ⟨hfd.1, hfd.2.1⟩; exact ⟨hfl.1, hfl.2.1⟩; exact ⟨hfm.1, hfm.2.1⟩)
  exact ⟨rfl, ⟨ht.mod hm' (fun h => h.2 rfl), C, hd', fun k h => ⟨(hk k h).1, (hk k h).2.1, Nat.lt_of_lt_of_le (hk k h).2.2 hm.size⟩⟩, hm'⟩
end Go.Proofs.YtjilbnpehgigjaaGreat

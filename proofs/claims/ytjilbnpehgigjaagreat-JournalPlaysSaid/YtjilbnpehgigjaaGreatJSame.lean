/- A journal whose disk makes a step of its own; cflref6.Open whatever the disk. -/
import Derived.Test.YtjilbnpehgigjaaGreatJPlainD
import Derived.Test.YtjilbnpehgigjaaGreatSixOpen
import Derived.Test.YtjilbnpehgigjaaGreatJAppend
import Derived.Test.YtjilbnpehgigjaaGreatRefCrash
import Derived.Test.YtjilbnpehgigjaaGreatJPair
import Derived.Test.YtjilbnpehgigjaaGreatShort
import Derived.Test.YtjilbnpehgigjaaGreatRefLists
namespace Go.Proofs.YtjilbnpehgigjaaGreat
open Go.RowKit
variable {G : Nat → Prop} {w : World} {jb tb db bl bm xb yb : Nat} {s1 s2 : JS} {D D1 D2 : DS}
theorem isDisk_half {w : World} {db bl bm : Nat} {C : Nat → Prop} {d : DS} (h : IsDisk w db bl bm C d) (hd : d.down = false) (hf : Nat) (hh : hf ≤ 1) : (halfOf d hf).length = 64 * (d.lasts.length / 2) := by
  unfold halfOf
  exact sectorsAt_length _ _ _ (fun i hi => read_64 w db bl bm C d h _ hd (by rcases (show hf = 0 ∨ hf = 1 by omega) with rfl | rfl <;> omega))
theorem disk_read64 {w : World} {db bl bm : Nat} {C : Nat → Prop} {D : DS} (q2 : IsDisk w db bl bm C D) (i : Int) : (D.read i).1.length ≤ 64 := by
  by_cases hs : D.sector i = 0
  · obtain ⟨hd, hi0, hi1⟩ := DS.sector_ok hs
    obtain ⟨k, rfl⟩ := Int.eq_ofNat_of_zero_le hi0
    rw [read_64 w db bl bm C D q2 k hd (by omega)]
    exact Nat.le_refl _
  · unfold DS.read; rw [if_pos hs]; simp
theorem sixOpen (F : Nat → Prop) (B : Nat → Prop) (db : Nat) (d : DS) (w : World) (h : IsRefIn w B db d) (hF : ∀ k, B k → F k) (hr64 : ∀ i, (d.read i).1.length ≤ 64) (h64 : d.down = false → ∀ i : Nat, i < d.lasts.length → (d.read (i : Int)).1.length = 64) :
    Calls Tryz.prog 18 #[.pointer (some ⟨db, 0, none⟩)] w fun e w' => ∃ jb, e = .returned (.pointer (some ⟨jb, 0, none⟩)) ∧ w.heap.size ≤ jb ∧ IsRJD (fun k => F k ∨ w.heap.size ≤ k) w' jb db d.opens d ∧ Mod nil w w' := by
  cases hd : d.down with
  | true => exact sixOpenDown F B db d w h hF hd
  | false => exact sixOpenUp F B db d w h hF hd hr64 (h64 hd)
theorem IsJD.onDisk {F T : Nat → Prop} {w w' : World} {C C' : Nat → Prop} {S : Nat → Prop} {s : JS} {d' : DS} (ht : IsTab w tb) (j1 : IsJ S w jb tb db s) (j3 : ∀ k, S k → ¬ foot db bl bm C k) (j4 : ∀ k, (S k ∨ foot db bl bm C k) → F k ∧ k ≠ tb ∧ k < w.heap.size)
    (hd' : IsDisk w' db bl bm C' d') (hC : ∀ k, C' k → C k ∨ w.heap.size ≤ k) (m : Mod T w w') (hT : ∀ k, T k → k = db ∨ k = bl ∨ k = bm) : IsJD (fun k => F k ∨ w.heap.size ≤ k) w' jb tb db bl bm s d' := by
  have hs := m.size
  have hfo : ∀ k, T k → foot db bl bm C k := fun k hk => by rcases hT k hk with h | h | h; exact .inl h; exact .inr (.inl h); exact .inr (.inr (.inl h))
  have hd'' := hd'.here
  have htl := ht.lt
  refine ⟨ht.mod m (fun e => (j4 tb (.inr (hfo tb e))).2.1 rfl), S, fun k => C' k ∧ k < w'.heap.size, j1.mod m (fun k _ hk e => j3 k hk (hfo k e)), hd'', fun k hk hf => ?_, fun k hk => ?_⟩
  · have hkw := (j4 k (.inl hk)).2.2
    rcases hf with h | h | h | h
    · exact j3 k hk (.inl h)
    · exact j3 k hk (.inr (.inl h))
    · exact j3 k hk (.inr (.inr (.inl h)))
    · rcases hC k h.1 with h' | h'
      · exact j3 k hk (.inr (.inr (.inr h')))
      · omega
  · have go : ∀ k, (S k ∨ foot db bl bm C k) → (F k ∨ w.heap.size ≤ k) ∧ k ≠ tb ∧ k < w'.heap.size := fun k h => ⟨.inl (j4 k h).1, (j4 k h).2.1, Nat.lt_of_lt_of_le (j4 k h).2.2 hs⟩
    rcases hk with h | h | h | h | h
    · exact go k (.inl h)
    · exact go k (.inr (.inl h))
    · exact go k (.inr (.inr (.inl h)))
    · exact go k (.inr (.inr (.inr (.inl h))))
    · rcases hC k h.1 with h' | h'
      · exact go k (.inr (.inr (.inr (.inr h'))))
      · exact ⟨.inr h', by omega, h.2⟩
theorem IsRJD.onDisk {R T : Nat → Prop} {w w' : World} {B B' S : Nat → Prop} {s : JS} {d' : DS} (r1 : IsRJ S w xb yb s) (r3 : ∀ k, S k → ¬ B k) (r4 : ∀ k, S k ∨ B k → R k ∧ k < w.heap.size)
    (hd' : IsRefIn w' B' yb d') (hB : ∀ k, B' k → B k ∨ w.heap.size ≤ k) (m : Mod T w w') (hT : ∀ k, T k → B k) : IsRJD (fun k => R k ∨ w.heap.size ≤ k) w' xb yb s d' := by
  have hs := m.size
  refine ⟨S, fun k => B' k ∧ k < w'.heap.size, r1.mod m (fun k _ hk e => r3 k hk (hT k e)), hd'.here, fun k hk hb => ?_, fun k hk => ?_⟩
  · rcases hB k hb.1 with h | h
    · exact r3 k hk h
    · have := (r4 k (.inl hk)).2; omega
  · rcases hk with h | h
    · exact ⟨.inl (r4 k (.inl h)).1, Nat.lt_of_lt_of_le (r4 k (.inl h)).2 hs⟩
    · exact ⟨(hB k h.1).imp (fun h => (r4 k (.inr h)).1) id, h.2⟩
end Go.Proofs.YtjilbnpehgigjaaGreat

/- The steps of two journals side by side. -/
namespace Go.Proofs.YtjilbnpehgigjaaGreat
open Go.RowKit
variable {G : Nat → Prop} {w : World} {jb tb db bl bm xb yb : Nat} {s1 s2 : JS} {D D1 D2 : DS}
/-- an argument's row is apart from all that the two own -/
theorem twoAppend {T : Nat → Prop} (h : Two G w jb tb db bl bm s1 D1 xb yb s2 D2) (pb : Option Addr) (nb cb : Nat) (b : List UInt8) (hrow : IsRow T w (.slice pb nb cb) (bys b)) (hT : ∀ k, T k → ¬ G k ∧ k < w.heap.size) (hc : nb ≤ cb) :
    Calls Tryz.prog 9 #[.pointer (some ⟨jb, 0, none⟩), .slice pb nb cb] w fun e w' => e = .returned (.int .i64 (s1.appends D1 b).2.2) ∧ Two (fun k => G k ∨ w.heap.size ≤ k) w' jb tb db bl bm (s1.appends D1 b).1 (s1.appends D1 b).2.1 xb yb s2 D2 ∧ Mod G w w' := by
  obtain ⟨P, R, h1, h2, h3, h4, h5⟩ := h.ex
  refine (jAppend P T jb tb db bl bm s1 D1 pb nb cb b w h1 h.ok1.1 hrow (fun k hk => ⟨(hT k hk).2, fun hp => (hT k hk).1 (h3 k hp).1, fun e => (hT k hk).1 (by rw [e]; exact h5)⟩) hc).mono ?_
  rintro e w' ⟨rfl, j', m⟩
  exact ⟨rfl, Two.left h1 h2 h3 h4 h5 h.ok2 (JS.appends_ok h.ok1) j' m (fun _ _ h => h)⟩
theorem twoCompact {T : Nat → Prop} (h : Two G w jb tb db bl bm s1 D1 xb yb s2 D2) (pb : Option Addr) (nb cb : Nat) (b : List UInt8) (hrow : IsRow T w (.slice pb nb cb) (bys b)) (hT : ∀ k, T k → ¬ G k ∧ k < w.heap.size) (hc : nb ≤ cb) :
    Calls Tryz.prog 20 #[.pointer (some ⟨jb, 0, none⟩), .slice pb nb cb] w fun e w' => e = .returned (.int .i64 (s1.compacts D1 b).2.2) ∧ Two (fun k => G k ∨ w.heap.size ≤ k) w' jb tb db bl bm (s1.compacts D1 b).1 (s1.compacts D1 b).2.1 xb yb s2 D2 ∧ Mod G w w' := by
  obtain ⟨P, R, h1, h2, h3, h4, h5⟩ := h.ex
  refine (jCompact P T jb tb db bl bm s1 D1 pb nb cb b w h1 h.ok1.1 hrow (fun k hk => ⟨(hT k hk).2, fun hp => (hT k hk).1 (h3 k hp).1, fun e => (hT k hk).1 (by rw [e]; exact h5)⟩) hc).mono ?_
  rintro e w' ⟨rfl, j', m⟩
  exact ⟨rfl, Two.left h1 h2 h3 h4 h5 h.ok2 (JS.compacts_ok h.ok1) j' m (fun _ _ h => h)⟩
theorem twoRefAppend {T : Nat → Prop} (h : Two G w jb tb db bl bm s1 D1 xb yb s2 D2) (pb : Option Addr) (nb cb : Nat) (b : List UInt8) (hrow : IsRow T w (.slice pb nb cb) (bys b)) (hT : ∀ k, T k → ¬ G k ∧ k < w.heap.size) (hc : nb ≤ cb) (hm : cb ≤ maxLen) :
    Calls Tryz.prog 19 #[.pointer (some ⟨xb, 0, none⟩), .slice pb nb cb] w fun e w' => e = .returned (.int .i64 (s2.appends D2 b).2.2) ∧ Two (fun k => G k ∨ w.heap.size ≤ k) w' jb tb db bl bm s1 D1 xb yb (s2.appends D2 b).1 (s2.appends D2 b).2.1 ∧ Mod G w w' := by
  obtain ⟨P, R, h1, h2, h3, h4, h5⟩ := h.ex
  refine (sixAppend R T xb yb nb cb pb b s2 D2 w h2 h.ok2.1 hrow (fun k hk => ⟨(hT k hk).2, fun hp => (hT k hk).1 (h4 k hp).1⟩) hc hm).mono ?_
  rintro e w' ⟨rfl, j', m⟩
  exact ⟨rfl, Two.right h1 h3 h4 h5 h.ok1 (JS.appends_ok h.ok2) j' m (fun _ _ h => h)⟩
theorem twoRefCompact {T : Nat → Prop} (h : Two G w jb tb db bl bm s1 D1 xb yb s2 D2) (pb : Option Addr) (nb cb : Nat) (b : List UInt8) (hrow : IsRow T w (.slice pb nb cb) (bys b)) (hT : ∀ k, T k → ¬ G k ∧ k < w.heap.size) (hc : nb ≤ cb) (hm : cb ≤ maxLen) :
    Calls Tryz.prog 21 #[.pointer (some ⟨xb, 0, none⟩), .slice pb nb cb] w fun e w' => e = .returned (.int .i64 (s2.compacts D2 b).2.2) ∧ Two (fun k => G k ∨ w.heap.size ≤ k) w' jb tb db bl bm s1 D1 xb yb (s2.compacts D2 b).1 (s2.compacts D2 b).2.1 ∧ Mod G w w' := by
  obtain ⟨P, R, h1, h2, h3, h4, h5⟩ := h.ex
  refine (sixCompact R T xb yb nb cb pb b s2 D2 w h2 h.ok2.1 hrow (fun k hk => ⟨(hT k hk).2, fun hp => (hT k hk).1 (h4 k hp).1⟩) hc hm).mono ?_
  rintro e w' ⟨rfl, j', m⟩
  exact ⟨rfl, Two.right h1 h3 h4 h5 h.ok1 (JS.compacts_ok h.ok2) j' m (fun _ _ h => h)⟩
theorem twoOpen (h : Two G w jb tb db bl bm s1 D1 xb yb s2 D2) :
    Calls Tryz.prog 8 #[.pointer (some ⟨tb, 0, none⟩), .pointer (some ⟨db, 0, none⟩)] w fun e w' => ∃ jb', e = .returned (.pointer (some ⟨jb', 0, none⟩)) ∧ Two (fun k => G k ∨ w.heap.size ≤ k) w' jb' tb db bl bm D1.opens D1 xb yb s2 D2 ∧ Mod G w w' := by
  obtain ⟨P, R, h1, h2, h3, h4, h5⟩ := h.ex
  obtain ⟨S, C, q1, q2, q3, q4⟩ := h1.ex
  refine (jOpen P tb db bl bm D1 w h1.dt).mono ?_
  rintro e w' ⟨jb', rfl, _, j', m⟩
  exact ⟨jb', rfl, Two.left h1 h2 h3 h4 h5 h.ok2 (DS.opens_ok D1 (fun hd hf hh => isDisk_half q2 hd hf hh)) j' m (fun _ _ h => .inr h)⟩
theorem twoRefOpen (h : Two G w jb tb db bl bm s1 D xb yb s2 D) :
    Calls Tryz.prog 18 #[.pointer (some ⟨yb, 0, none⟩)] w fun e w' => ∃ xb', e = .returned (.pointer (some ⟨xb', 0, none⟩)) ∧ Two (fun k => G k ∨ w.heap.size ≤ k) w' jb tb db bl bm s1 D xb' yb D.opens D ∧ Mod G w w' := by
  obtain ⟨P, R, h1, h2, h3, h4, h5⟩ := h.ex
  obtain ⟨S, C, q1, q2, q3, q4⟩ := h1.ex
  obtain ⟨S2, B, r1, r2, r3, r4⟩ := id h2
  have h64 : D.down = false → ∀ i : Nat, i < D.lasts.length → (D.read (i : Int)).1.length = 64 := fun hd i hi => read_64 w db bl bm C D q2 i hd hi
  have hr64 : ∀ i : Int, (D.read i).1.length ≤ 64 := fun i => by
    by_cases hs : D.sector i = 0
    · obtain ⟨hd, hi0, hi1⟩ := DS.sector_ok hs
      obtain ⟨k, rfl⟩ := Int.eq_ofNat_of_zero_le hi0
      rw [h64 hd k (by omega)]
      exact Nat.le_refl _
    · unfold DS.read; rw [if_pos hs]; simp
  refine (sixOpen R B yb D w r2 (fun k hk => (r4 k (.inr hk)).1) hr64 h64).mono ?_
  rintro e w' ⟨xb', rfl, _, j', m⟩
  exact ⟨xb', rfl, Two.right h1 h3 h4 h5 h.ok1 (DS.opens_ok D (fun hd hf hh => isDisk_half q2 hd hf hh)) j' m (fun _ _ h => h.elim)⟩
theorem crash_len (d : DS) (keep : List Bool) (h : (d.crash keep).lasts.length = d.lasts.length) {s : JS} (hs : s.Ok (d.lasts.length / 2)) : s.Ok ((d.crash keep).lasts.length / 2) := by rw [h]; exact hs
theorem twoCrash {T : Nat → Prop} (h : Two G w jb tb db bl bm s1 D1 xb yb s2 D2) (v : Value) (keep : List Bool) (hv : IsRow T w v (keep.map Value.bool)) (hT : ∀ k, T k → ¬ G k ∧ k < w.heap.size) (hk : keep.length ≤ 9223372036854775807) (hl : (D1.crash keep).lasts.length = D1.lasts.length) :
    Calls Tryz.prog 12 #[.pointer (some ⟨db, 0, none⟩), v] w fun e w' => e = .returned (.tuple #[]) ∧ Two (fun k => G k ∨ w.heap.size ≤ k) w' jb tb db bl bm s1 (D1.crash keep) xb yb s2 D2 ∧ Mod G w w' := by
  obtain ⟨P, R, h1, h2, h3, h4, h5⟩ := h.ex
  obtain ⟨S, C, q1, q2, q3, q4⟩ := h1.ex
  have a1 := h3 _ (q4 db (.inr (.inl rfl))).1
  have a2 := h3 _ (q4 bl (.inr (.inr (.inl rfl)))).1
  refine (diskCrash db bl bm C T D1 v keep w q2 hv ⟨fun ht => (hT _ ht).1 a1.1, fun ht => (hT _ ht).1 a2.1⟩ hk).mono ?_
  rintro e w' ⟨rfl, hd', m⟩
  exact ⟨rfl, Two.left h1 h2 h3 h4 h5 h.ok2 (crash_len _ _ hl h.ok1) (IsJD.onDisk h1.tab q1 q3 q4 hd' (fun _ h => .inl h) m (fun _ h => h)) m (fun k hk hm => .inl (q4 k (.inr (by rcases hm with e | e | e; exact .inl e; exact .inr (.inl e); exact .inr (.inr (.inl e))))).1)⟩
theorem twoFuse (h : Two G w jb tb db bl bm s1 D1 xb yb s2 D2) (n : Int) (hn : n ≤ 9223372036854775807) :
    Calls Tryz.prog 11 #[.pointer (some ⟨db, 0, none⟩), .int .i64 n] w fun e w' => e = .returned (.tuple #[]) ∧ Two (fun k => G k ∨ w.heap.size ≤ k) w' jb tb db bl bm s1 { D1 with fuse := max n (-1) } xb yb s2 D2 ∧ Mod G w w' := by
  obtain ⟨P, R, h1, h2, h3, h4, h5⟩ := h.ex
  obtain ⟨S, C, q1, q2, q3, q4⟩ := h1.ex
  refine (diskFuse db bl bm C D1 n w q2 hn).mono ?_
  rintro e w' ⟨rfl, hd', m⟩
  exact ⟨rfl, Two.left h1 h2 h3 h4 h5 h.ok2 h.ok1 (IsJD.onDisk h1.tab q1 q3 q4 hd' (fun _ h => .inl h) m (fun _ h => .inl h)) m (fun k hk hm => .inl (q4 k (.inr (.inl hm))).1)⟩
theorem twoWrite {T : Nat → Prop} (h : Two G w jb tb db bl bm s1 D1 xb yb s2 D2) (i : Int) (v : Value) (l : List UInt8) (hv : IsRow T w v (bys l)) (hT : ∀ k, T k → ¬ G k ∧ k < w.heap.size) (hl : l.length ≤ 9223372036854775807) :
    Calls Tryz.prog 24 #[.pointer (some ⟨db, 0, none⟩), .int .i64 i, v] w fun e w' => e = .returned (.int .i64 (D1.write i l).2) ∧ Two (fun k => G k ∨ w.heap.size ≤ k) w' jb tb db bl bm s1 (D1.write i l).1 xb yb s2 D2 ∧ Mod G w w' := by
  obtain ⟨P, R, h1, h2, h3, h4, h5⟩ := h.ex
  obtain ⟨S, C, q1, q2, q3, q4⟩ := h1.ex
  refine (diskWrite db bl bm C T D1 i v l w q2 hv (fun ht => (hT db ht).1 (h3 _ (q4 db (.inr (.inl rfl))).1).1) hl).mono ?_
  rintro e w' ⟨C', rfl, hd', hC, m⟩
  exact ⟨rfl, Two.left h1 h2 h3 h4 h5 h.ok2 (by rw [DS.write_len]; exact h.ok1) (IsJD.onDisk h1.tab q1 q3 q4 hd' hC m (fun _ h => h.imp id .inr)) m (fun k hk hm => .inl (q4 k (.inr (by rcases hm with e | e; exact .inl e; exact .inr (.inr (.inl e))))).1)⟩
theorem twoRefCrash {T : Nat → Prop} (h : Two G w jb tb db bl bm s1 D1 xb yb s2 D2) (v : Value) (keep : List Bool) (hv : IsRow T w v (keep.map Value.bool)) (hT : ∀ k, T k → ¬ G k ∧ k < w.heap.size) (hk : keep.length ≤ 9223372036854775807) (hl : (D2.crash keep).lasts.length = D2.lasts.length) :
    Calls Tryz.prog 22 #[.pointer (some ⟨yb, 0, none⟩), v] w fun e w' => e = .returned (.tuple #[]) ∧ Two (fun k => G k ∨ w.heap.size ≤ k) w' jb tb db bl bm s1 D1 xb yb s2 (D2.crash keep) ∧ Mod G w w' := by
  obtain ⟨P, R, h1, h2, h3, h4, h5⟩ := h.ex
  obtain ⟨S2, B, r1, r2, r3, r4⟩ := id h2
  refine (refCrash yb B T D2 v keep w r2 hv (fun k hk hb => (hT k hk).1 (h4 k (r4 k (.inr hb)).1).1) hk).mono ?_
  rintro e w' ⟨rfl, hd', m⟩
  exact ⟨rfl, Two.right h1 h3 h4 h5 h.ok1 (crash_len _ _ hl h.ok2) (IsRJD.onDisk r1 r3 r4 hd' (fun _ h => .inl h) m (fun _ h => h)) m (fun k hk hm => (r4 k (.inr hm)).1)⟩
theorem twoRefFuse (h : Two G w jb tb db bl bm s1 D1 xb yb s2 D2) (n : Int) (hn : n ≤ 9223372036854775807) :
    Calls Tryz.prog 23 #[.pointer (some ⟨yb, 0, none⟩), .int .i64 n] w fun e w' => e = .returned (.tuple #[]) ∧ Two (fun k => G k ∨ w.heap.size ≤ k) w' jb tb db bl bm s1 D1 xb yb s2 { D2 with fuse := max n (-1) } ∧ Mod G w w' := by
  obtain ⟨P, R, h1, h2, h3, h4, h5⟩ := h.ex
  obtain ⟨S2, B, r1, r2, r3, r4⟩ := id h2
  have hyb := r2.own.1
  refine (refFuse yb B D2 n w r2 hn).mono ?_
  rintro e w' ⟨rfl, hd', m⟩
  exact ⟨rfl, Two.right h1 h3 h4 h5 h.ok1 h.ok2 (IsRJD.onDisk r1 r3 r4 hd' (fun _ h => .inl h) m (fun k h => by rw [h]; exact hyb)) m (fun k hk hm => (r4 k (.inr (by rw [hm]; exact hyb))).1)⟩
theorem twoRefWrite {T : Nat → Prop} (h : Two G w jb tb db bl bm s1 D1 xb yb s2 D2) (i : Int) (v : Value) (l : List UInt8) (hv : IsRow T w v (bys l)) (hT : ∀ k, T k → ¬ G k ∧ k < w.heap.size) (hl : l.length ≤ 9223372036854775807) :
    Calls Tryz.prog 26 #[.pointer (some ⟨yb, 0, none⟩), .int .i64 i, v] w fun e w' => e = .returned (.int .i64 (D2.write i l).2) ∧ Two (fun k => G k ∨ w.heap.size ≤ k) w' jb tb db bl bm s1 D1 xb yb s2 (D2.write i l).1 ∧ Mod G w w' := by
  obtain ⟨P, R, h1, h2, h3, h4, h5⟩ := h.ex
  obtain ⟨S2, B, r1, r2, r3, r4⟩ := id h2
  refine (refWrite yb B T D2 i v l w r2 hv (fun k hk hb => (hT k hk).1 (h4 k (r4 k (.inr hb)).1).1) hl).mono ?_
  rintro e w' ⟨rfl, hd', m⟩
  exact ⟨rfl, Two.right h1 h3 h4 h5 h.ok1 (by rw [DS.write_len]; exact h.ok2) (IsRJD.onDisk r1 r3 r4 hd' (fun _ h => h) m (fun _ h => h)) m (fun k hk hm => (r4 k (.inr hm)).1)⟩
end Go.Proofs.YtjilbnpehgigjaaGreat

/- cfllaw8's same and sector. (Printed by wip/tools/gen_jsame.py.) -/
namespace Go.Proofs.YtjilbnpehgigjaaGreat
open Go.RowKit
set_option maxRecDepth 100000 in
set_option maxHeartbeats 4000000 in
theorem twoSame {G : Nat → Prop} {w : World} {jb tb db bl bm xb yb : Nat} {s : JS} {D : DS} (h : Two G w jb tb db bl bm s D xb yb s D) :
    Calls Tryz.prog 28 #[.pointer (some ⟨jb, 0, none⟩), .pointer (some ⟨xb, 0, none⟩)] w fun e w' => e = .returned (.bool true) ∧ Mod nil w w' := by
  refine (?_ : ∀ Post : Ending → World → Prop, Hid (∀ e w', (e = .returned (.bool true) ∧ Mod nil w w') → Post e w') → Calls Tryz.prog 28 #[.pointer (some ⟨jb, 0, none⟩), .pointer (some ⟨xb, 0, none⟩)] w Post) _ (Lib.hid (fun _ _ h => h))
  intro Post HPOST
  obtain ⟨⟨l1, l2, l3, l4⟩, ok2, ok3⟩ := h.ok1
  obtain ⟨P, R, h1, h2, -⟩ := h.ex
  obtain ⟨S, B, r1, r2, -⟩ := id h2
  have hroom := r2.room
  obtain ⟨pp, cp, nr, pr, cr, hb, hp, ht⟩ := r1.ex
  have hnr : s.recs.length = nr := ht.len
  have HPIC := Lib.hid (jdPicture h1 ok2)
  have hxl := heap_lt hb
  obtain ⟨np, hnp⟩ : ∃ x, s.pict.length = x := ⟨_, rfl⟩
  obtain ⟨gn, hgn⟩ : ∃ x, s.gen = x := ⟨_, rfl⟩
  obtain ⟨hs, hhs⟩ : ∃ x, s.has = x := ⟨_, rfl⟩
  obtain ⟨rm, hrm⟩ : ∃ x, D.lasts.length / 2 - s.at_ = x := ⟨_, rfl⟩
  have HK0 : Hid (∀ W, Mod nil w W → (fun w' => w'.cell? ⟨xb, 3, none⟩ = some (.bool hs) ∧ w'.cell? ⟨xb, 4, none⟩ = some (.slice pp np cp) ∧ w'.cell? ⟨xb, 5, none⟩ = some (.slice pr nr cr) ∧ w'.cell? ⟨xb, 2, none⟩ = some (.int .i64 (gn : Nat))) W) := Lib.hid (fun W m => by
    have e := m.keep hb
    rw [hnp, hgn, hhs] at e
    exact ⟨cell_of e 3, cell_of e 4, cell_of e 5, cell_of e 2⟩)
  have HBY0 : Hid (∀ (w1 W : World) (p1 : Option Addr) (c1 : Nat), Mod nil w w1 → IsVec (fun k => w.heap.size ≤ k) w1 5 1 (.slice p1 np c1) np (bys s.pict) → Mod nil w1 W → Calls Tryz.prog 54 #[.slice p1 np c1, .slice pp np cp] W fun e w' => e = .returned (.bool true) ∧ W = w') := Lib.hid (fun w1 W p1 c1 m1 hv m => by
    have hp' := hp.modNil (m1.thenNil m)
    rw [hnp] at hp'
    have q := refBytesW _ _ (.slice p1 np c1) (.slice pp np cp) s.pict s.pict W (hv.row.modNil m) hp'
    rwa [decide_eq_true rfl] at q)
  have HREC0 : Hid (∀ W, Mod nil w W → Calls Tryz.prog 13 #[.pointer (some ⟨jb, 0, none⟩)] W fun e w' => ∃ p c, e = .returned (.slice p nr c) ∧ IsTexts (fun k => W.heap.size ≤ k) w' (.slice p nr c) nr s.recs ∧ Mod nil W w') := Lib.hid (fun W m => by
    have q := jdRecords (h1.modNil m) ok3 (by omega)
    rwa [hnr] at q)
  have HLS0 : Hid (∀ w3 W, Mod nil w w3 → Mod nil w3 W → ∀ (v : Value) (S3 : Nat → Prop), IsTexts S3 w3 v nr s.recs → Calls Tryz.prog 14 #[v, .slice pr nr cr] W fun e w' => e = .returned (.bool true) ∧ ∃ k, w' = W.drewN k) := Lib.hid (fun w3 W m3 m v S3 h3 => by
    have q := refLists _ _ v (.slice pr nr cr) nr nr s.recs s.recs W (h3.modNil m) (ht.texts.modNil (m3.thenNil m)) (by omega)
    rwa [decide_eq_true rfl] at q)
  have HGEN0 := Lib.hid (fun W (m : Mod nil w W) => jdGen (h1.modNil m))
  have HROOM0 := Lib.hid (fun W (m : Mod nil w W) => jdRoom (h1.modNil m) l4)
  have HSIX0 := Lib.hid (fun W (m : Mod nil w W) => sixRoom S B xb yb s D W (r1.modNil m) (r2.mod m (fun _ _ _ f => f)) l4)
  rw [hgn] at HGEN0
  rw [hrm] at HROOM0 HSIX0
  rw [hnp, hhs] at HPIC
  clear h h1 h2 r1 r2 hb hp ht ok2 ok3 l1 l2 l3 l4 hnr hnp hgn hhs hrm hroom
  go_enter Tryz.func28, Tryz.ntmps28
  go_wp2_with fail
  refine HPIC.out.mono ?_
  rintro e w1 ⟨p1, c1, rfl, hv1, hm1⟩
  have HM1 := Lib.hid hm1
  have HBY := Lib.hid (fun W (m : Mod nil w1 W) => HBY0.out w1 W p1 c1 hm1 hv1 m)
  have HREC := Lib.hid (fun W (m : Mod nil w1 W) => HREC0.out W (hm1.thenNil m))
  have HLS0' := Lib.hid (fun w3 W (m3 : Mod nil w1 w3) (m : Mod nil w3 W) (v : Value) (h : IsTexts (fun k => w3.heap.size ≤ k ∨ True) w3 v nr s.recs) => HLS0.out w3 W (hm1.thenNil m3) m v _ h)
  have HGEN := Lib.hid (fun W (m : Mod nil w1 W) => HGEN0.out W (hm1.thenNil m))
  have HROOM := Lib.hid (fun W (m : Mod nil w1 W) => HROOM0.out W (hm1.thenNil m))
  have HSIX := Lib.hid (fun W (m : Mod nil w1 W) => HSIX0.out W (hm1.thenNil m))
  have HK := Lib.hid (fun W (m : Mod nil w1 W) => HK0.out W (hm1.thenNil m))
  have HEND : Hid (∀ W, Mod nil w1 W → Post (.returned (.bool true)) W) := Lib.hid (fun W m => HPOST.out _ _ ⟨rfl, hm1.thenNil m⟩)
  clear HLS0
  have HLS0 := Lib.hid (fun w3 W (m3 : Mod nil w1 w3) (m : Mod nil w3 W) (v : Value) (h : IsTexts (fun _ => True) w3 v nr s.recs) => HLS0'.out w3 W m3 m v (h.mono (fun _ _ _ => .inr trivial)))
  have hm11 : Mod nil w1 w1 := Mod.refl _ _
  clear hv1 hm1 HBY0 HREC0 HLS0' HGEN0 HROOM0 HSIX0 HK0
  go_upto_region 2 with (fail)
  refine wp_region_held_drew (S := (fun w' => w'.cell? ⟨xb, 3, none⟩ = some (.bool hs) ∧ w'.cell? ⟨xb, 4, none⟩ = some (.slice pp np cp) ∧ w'.cell? ⟨xb, 5, none⟩ = some (.slice pr nr cr) ∧ w'.cell? ⟨xb, 2, none⟩ = some (.int .i64 (gn : Nat)))) (by kernel_rfl) (HK.out _ (by (repeat (first | assumption | exact Mod.refl _ _ | refine Mod.drew ?_ | refine Mod.alloc ?_ _)))) (fun hHeld => ?_)
  refine tH 0 ?_
  (try simp only [Act.put, pT])
  refine tH 1 ?_
  (try simp only [Act.put, pT])
  refine tH 2 ?_
  (try simp only [Act.put, pT])
  refine tH 3 ?_
  (try simp only [Act.put, pT])
  refine tH 4 ?_
  (try simp only [Act.put, pT])
  refine tH 5 ?_
  (try simp only [Act.put, pT])
  refine tH 6 ?_
  (try simp only [Act.put, pT])
  refine tH 7 ?_
  (try simp only [Act.put, pT])
  refine tH 8 ?_
  (try simp only [Act.put, pT])
  refine tH 9 ?_
  (try simp only [Act.put, pT])
  refine tH 10 ?_
  (try simp only [Act.put, pT])
  refine tH 11 ?_
  (try simp only [Act.put, pT])
  refine wpAnyH_ready (rs := [12]) (by kernel_rfl) (by simp) ?_
  refine AllReadyH.cons (i := 12) rfl (fun K hK => ?_) AllReadyH.nil
  (try dsimp (config := { proj := false }) only [g0, g1, g2])
  go_simp
  refine (HBY.out _ ?_).mono ?_
  · (repeat (first | assumption | exact Mod.refl _ _ | refine Mod.drew ?_ | refine Mod.alloc ?_ _))
  rintro e w' ⟨rfl, rfl⟩
  refine hK.out _ _ (HK.out _ (by (repeat (first | assumption | exact Mod.refl _ _ | refine Mod.drew ?_ | refine Mod.alloc ?_ _)))) (fun hHeld => ?_)
  clear hK K
  (try simp only [Act.put, pT])
  refine tH 13 ?_
  (try simp only [Act.put, pT])
  refine tH 14 ?_
  (try simp only [Act.put, pT])
  refine tH 15 ?_
  (try simp only [Act.put, pT])
  refine tH 17 ?_
  (try simp only [Act.put, pT])
  refine tH 18 ?_
  (try simp only [Act.put, pT])
  refine tH 19 ?_
  (try simp only [Act.put, pT])
  refine tH 20 ?_
  (try simp only [Act.put, pT])
  refine wpAnyH_ready (rs := [16]) (by kernel_rfl) (by simp) ?_
  refine AllReadyH.cons (i := 16) rfl (fun K hK => ?_) AllReadyH.nil
  (try dsimp (config := { proj := false }) only [g0, g1, g2])
  go_simp
  refine (HREC.out _ ?_).mono ?_
  · (repeat (first | assumption | exact Mod.refl _ _ | refine Mod.drew ?_ | refine Mod.alloc ?_ _))
  rintro e w3 ⟨p3, c3, rfl, ht3, hm3_⟩
  have hm3 : Mod nil w1 w3 := (show Mod nil w1 _ from by (repeat (first | assumption | exact Mod.refl _ _ | refine Mod.drew ?_ | refine Mod.alloc ?_ _))).thenNil hm3_
  have HLS := Lib.hid (fun W (m : Mod nil w3 W) => HLS0.out w3 W hm3 m _ (ht3.mono (fun _ _ _ => trivial)))
  have hm33 : Mod nil w3 w3 := Mod.refl _ _
  clear ht3 hm3_
  refine hK.out _ _ (HK.out _ (by (repeat (first | assumption | exact Mod.refl _ _ | refine Mod.drew ?_ | refine Mod.alloc ?_ _)))) (fun hHeld => ?_)
  clear hK K
  (try simp only [Act.put, pT])
  refine wpAnyH_ready (rs := [21]) (by kernel_rfl) (by simp) ?_
  refine AllReadyH.cons (i := 21) rfl (fun K hK => ?_) AllReadyH.nil
  (try dsimp (config := { proj := false }) only [g0, g1, g2])
  go_simp
  refine (HLS.out _ ?_).mono ?_
  · (repeat (first | assumption | exact Mod.refl _ _ | refine Mod.drew ?_ | refine Mod.alloc ?_ _))
  rintro e w' ⟨rfl, kz, rfl⟩
  have hm4 : Mod nil w1 (World.drewN w3 kz) := hm3.drewN kz
  generalize World.drewN w3 kz = w4 at *
  refine hK.out _ _ (HK.out _ (by (repeat (first | assumption | exact Mod.refl _ _ | refine Mod.drew ?_ | refine Mod.alloc ?_ _)))) (fun hHeld => ?_)
  clear hK K
  (try simp only [Act.put, pT])
  refine tH 22 ?_
  (try simp only [Act.put, pT])
  refine tH 23 ?_
  (try simp only [Act.put, pT])
  refine tH 24 ?_
  (try simp only [Act.put, pT])
  refine tH 26 ?_
  (try simp only [Act.put, pT])
  refine tH 27 ?_
  (try simp only [Act.put, pT])
  refine tH 28 ?_
  (try simp only [Act.put, pT])
  refine tH 29 ?_
  (try simp only [Act.put, pT])
  refine wpAnyH_ready (rs := [25]) (by kernel_rfl) (by simp) ?_
  refine AllReadyH.cons (i := 25) rfl (fun K hK => ?_) AllReadyH.nil
  (try dsimp (config := { proj := false }) only [g0, g1, g2])
  go_simp
  refine (HGEN.out _ ?_).mono ?_
  · (repeat (first | assumption | exact Mod.refl _ _ | refine Mod.drew ?_ | refine Mod.alloc ?_ _))
  rintro e w' ⟨rfl, rfl⟩
  refine hK.out _ _ (HK.out _ (by (repeat (first | assumption | exact Mod.refl _ _ | refine Mod.drew ?_ | refine Mod.alloc ?_ _)))) (fun hHeld => ?_)
  clear hK K
  (try simp only [Act.put, pT])
  refine tH 30 ?_
  (try simp only [Act.put, pT])
  refine tH 31 ?_
  (try simp only [Act.put, pT])
  refine tH 32 ?_
  (try simp only [Act.put, pT])
  refine tH 33 ?_
  (try simp only [Act.put, pT])
  refine tH 35 ?_
  (try simp only [Act.put, pT])
  refine wpAnyH_ready (rs := [34]) (by kernel_rfl) (by simp) ?_
  refine AllReadyH.cons (i := 34) rfl (fun K hK => ?_) AllReadyH.nil
  (try dsimp (config := { proj := false }) only [g0, g1, g2])
  go_simp
  refine (HROOM.out _ ?_).mono ?_
  · (repeat (first | assumption | exact Mod.refl _ _ | refine Mod.drew ?_ | refine Mod.alloc ?_ _))
  rintro e w5 ⟨rfl, hm5_⟩
  have hm5 : Mod nil w1 w5 := (show Mod nil w1 _ from by (repeat (first | assumption | exact Mod.refl _ _ | refine Mod.drew ?_ | refine Mod.alloc ?_ _))).thenNil hm5_
  clear hm5_
  refine hK.out _ _ (HK.out _ (by (repeat (first | assumption | exact Mod.refl _ _ | refine Mod.drew ?_ | refine Mod.alloc ?_ _)))) (fun hHeld => ?_)
  clear hK K
  (try simp only [Act.put, pT])
  refine wpAnyH_ready (rs := [36]) (by kernel_rfl) (by simp) ?_
  refine AllReadyH.cons (i := 36) rfl (fun K hK => ?_) AllReadyH.nil
  (try dsimp (config := { proj := false }) only [g0, g1, g2])
  go_simp
  refine (HSIX.out _ ?_).mono ?_
  · (repeat (first | assumption | exact Mod.refl _ _ | refine Mod.drew ?_ | refine Mod.alloc ?_ _))
  rintro e w6 ⟨rfl, hm6_⟩
  have hm6 : Mod nil w1 w6 := (show Mod nil w1 _ from by (repeat (first | assumption | exact Mod.refl _ _ | refine Mod.drew ?_ | refine Mod.alloc ?_ _))).thenNil hm6_
  clear hm6_
  refine hK.out _ _ (HK.out _ (by (repeat (first | assumption | exact Mod.refl _ _ | refine Mod.drew ?_ | refine Mod.alloc ?_ _)))) (fun hHeld => ?_)
  clear hK K
  (try simp only [Act.put, pT])
  refine tH 37 ?_
  (try simp only [Act.put, pT])
  refine tH 38 ?_
  (try simp only [Act.put, pT])
  refine tH 39 ?_
  (try simp only [Act.put, pT])
  refine wpAnyH_done (by kernel_rfl) ?_ _
  go_wp2_with fail
  exact HEND.out _ (by (repeat (first | assumption | exact Mod.refl _ _ | refine Mod.drew ?_ | refine Mod.alloc ?_ _)))
end Go.Proofs.YtjilbnpehgigjaaGreat

/- Two diaries, the program's and the reference's, each over a disk of its own, side by side: the disks' steps. -/
import Derived.Test.YtdfahddpkkeldaaGreatShort
import Derived.Test.YtdfahddpkkeldaaGreatRefDiary
import Derived.Test.YtdfahddpkkeldaaGreatDiaryLaw
import Derived.Test.YtdfahddpkkeldaaGreatOnDisk
import Derived.Test.YtdfahddpkkeldaaGreatRefExport
set_option linter.unusedSimpArgs false
set_option linter.unusedVariables false
namespace Go.Proofs.YtdfahddpkkeldaaGreat
open Go.RowKit
/-- cflref22's diary at block zb over the disk xb: all of its blocks (and the disk's) are in F -/
structure IsRY (F : Nat → Prop) (w : World) (zb xb : Nat) (y : YS) : Prop where
 ex : ∃ (jb n : Nat) (p : Option Addr) (c : Nat) (J E : Nat → Prop), w.heap[zb]? = some (.cells #[.pointer (some ⟨jb, 0, none⟩), .slice p n c] 61 (0, 0)) ∧ F zb ∧
  IsRJD J w jb xb y.s y.d ∧ IsEnts E w (.slice p n c) n y.l ∧ (∀ k, J k → F k ∧ ¬ k = zb ∧ ¬ E k) ∧ ∀ k, E k → F k ∧ ¬ k = zb
theorem IsRY.mod {F T : Nat → Prop} {w w' : World} {zb xb : Nat} {y : YS} (h : IsRY F w zb xb y) (m : Mod T w w') (hs : ∀ k, k < w.heap.size → F k → ¬ T k) : IsRY F w' zb xb y := by
 obtain ⟨jb, n, p, c, J, E, h1, h2, h3, h4, h5, h6⟩ := h.ex
 exact ⟨jb, n, p, c, J, E, (m.block zb (heap_lt h1) (hs zb (heap_lt h1) h2)).trans h1, h2, h3.mod m (fun k hk h => hs k hk (h5 k h).1), h4.mod m (fun k hk h => hs k hk (h6 k h).1), h5, h6⟩
theorem IsRY.mono {F G : Nat → Prop} {w : World} {zb xb : Nat} {y : YS} (h : IsRY F w zb xb y) (hs : ∀ k, k < w.heap.size → F k → G k) : IsRY G w zb xb y := by
 obtain ⟨jb, n, p, c, J, E, h1, h2, h3, h4, h5, h6⟩ := h.ex
 exact ⟨jb, n, p, c, fun k => J k ∧ k < w.heap.size, fun k => E k ∧ k < w.heap.size, h1, hs zb (heap_lt h1) h2, h3.mono (fun k hk h => ⟨h, hk⟩), h4.mono (fun k hk h => ⟨h, hk⟩), fun k hk => ⟨hs k hk.2 (h5 k hk.1).1, (h5 k hk.1).2.1, fun h => (h5 k hk.1).2.2 h.1⟩, fun k hk => ⟨hs k hk.2 (h6 k hk.1).1, (h6 k hk.1).2⟩⟩
/-- cflref6's disk alone -/
def IsRD (F : Nat → Prop) (w : World) (xb : Nat) (d : DS) : Prop := ∃ B, IsRefIn w B xb d ∧ ∀ k, B k → F k ∧ k < w.heap.size
theorem IsRD.mod {F T : Nat → Prop} {w w' : World} {xb : Nat} {d : DS} (h : IsRD F w xb d) (m : Mod T w w') (hs : ∀ k, k < w.heap.size → F k → ¬ T k) : IsRD F w' xb d := by
 obtain ⟨B, h1, h2⟩ := h
 exact ⟨B, h1.mod m (fun k hk h => hs k hk (h2 k h).1), fun k h => ⟨(h2 k h).1, Nat.lt_of_lt_of_le (h2 k h).2 m.size⟩⟩
theorem IsRD.mono {F G : Nat → Prop} {w : World} {xb : Nat} {d : DS} (h : IsRD F w xb d) (hs : ∀ k, k < w.heap.size → F k → G k) : IsRD G w xb d := by
 obtain ⟨B, h1, h2⟩ := h
 exact ⟨B, h1, fun k h => ⟨hs k (h2 k h).2 (h2 k h).1, (h2 k h).2⟩⟩
theorem IsRY.rd {F : Nat → Prop} {w : World} {zb xb : Nat} {y : YS} (h : IsRY F w zb xb y) : IsRD F w xb y.d := by
 obtain ⟨jb, n, p, c, J, E, h1, h2, ⟨S, B, j1, j2, j3, j4⟩, h4, h5, h6⟩ := h.ex
 exact ⟨B, j2, fun k hk => ⟨(h5 k (j4 k (.inr hk)).1).1, (j4 k (.inr hk)).2⟩⟩
theorem IsDT.mod' {F T : Nat → Prop} {w w' : World} {tb db bl bm : Nat} {d : DS} (h : IsDT F w tb db bl bm d) (m : Mod T w w') (hs : ∀ k, k < w.heap.size → F k ∨ k = tb → ¬ T k) : IsDT F w' tb db bl bm d := by
 obtain ⟨h0, C, h1, h2⟩ := h
 exact ⟨h0.mod m (hs tb h0.lt (.inr rfl)), C, h1.mod m (fun k hk h => hs k hk (.inl (h2 k h).1)), fun k hk => ⟨(h2 k hk).1, (h2 k hk).2.1, Nat.lt_of_lt_of_le (h2 k hk).2.2 m.size⟩⟩
theorem IsDT.mono' {F G : Nat → Prop} {w : World} {tb db bl bm : Nat} {d : DS} (h : IsDT F w tb db bl bm d) (hs : ∀ k, k < w.heap.size → F k → G k) : IsDT G w tb db bl bm d := by
 obtain ⟨h0, C, h1, h2⟩ := h
 exact ⟨h0, C, h1, fun k hk => ⟨hs k (h2 k hk).2.2 (h2 k hk).1, (h2 k hk).2⟩⟩
/-- a diary and what it holds besides -/
def YA (tb db bl bm yb : Nat) (y : YS) : (Nat → Prop) → World → Prop := fun P w => IsY P w yb tb db bl bm y
def YB (xb zb : Nat) (y : YS) : (Nat → Prop) → World → Prop := fun P w => IsRY P w zb xb y
def DA (tb db bl bm : Nat) (d : DS) : (Nat → Prop) → World → Prop := fun P w => IsDT P w tb db bl bm d
def DB (xb : Nat) (d : DS) : (Nat → Prop) → World → Prop := fun P w => IsRD P w xb d
theorem YA.keeps (tb db bl bm yb : Nat) (y : YS) : Keeps tb (YA tb db bl bm yb y) := ⟨fun h m hs => IsY.mod h m hs, fun h hs => IsY.mono h hs⟩
theorem YB.keeps (xb zb : Nat) (y : YS) : KeepsR (YB xb zb y) := ⟨fun h m hs => IsRY.mod h m hs, fun h hs => IsRY.mono h hs⟩
theorem DA.keeps (tb db bl bm : Nat) (d : DS) : Keeps tb (DA tb db bl bm d) := ⟨fun h m hs => IsDT.mod' h m hs, fun h hs => IsDT.mono' h hs⟩
theorem DB.keeps (xb : Nat) (d : DS) : KeepsR (DB xb d) := ⟨fun h m hs => IsRD.mod h m hs, fun h hs => IsRD.mono h hs⟩
/-- the disk below a diary has made a step -/
theorem IsY.onDisk {F T C C' : Nat → Prop} {w w' : World} {yb tb db bl bm gb jb : Nat} {y : YS} {d' : DS} {J L S : Nat → Prop} (h1 : w.heap[yb]? = some (.cells #[.pointer (some ⟨gb, 0, none⟩), .pointer (some ⟨jb, 0, none⟩)] 56 (0, 0))) (h2 : F yb) (h3 : ¬ yb = tb)
  (ht : IsTab w tb) (j1 : IsJ S w jb tb db y.s) (j3 : ∀ k, S k → ¬ foot db bl bm C k) (j4 : ∀ k, (S k ∨ foot db bl bm C k) → J k ∧ k ≠ tb ∧ k < w.heap.size) (h5 : IsLog L w gb tb y.l) (h6 : ∀ k, J k → F k ∧ k ≠ tb ∧ ¬ k = yb ∧ ¬ L k) (h7 : ∀ k, L k → F k ∧ ¬ k = tb ∧ ¬ k = yb)
  (hd' : IsDisk w' db bl bm C' d') (hC : ∀ k, C' k → C k ∨ w.heap.size ≤ k) (m : Mod T w w') (hT : ∀ k, T k → k = db ∨ k = bl ∨ k = bm) : IsY (fun k => F k ∨ w.heap.size ≤ k) w' yb tb db bl bm ⟨y.s, d', y.l⟩ := by
 have hfo : ∀ k, T k → J k := fun k hk => (j4 k (.inr (by rcases hT k hk with h | h | h; exact .inl h; exact .inr (.inl h); exact .inr (.inr (.inl h))))).1
 have hj := IsJD.onDisk ht j1 j3 j4 hd' hC m hT
 have hs := m.size
 have hyl := heap_lt h1
 have htl := ht.lt
 refine ⟨gb, jb, fun k => J k ∨ w.heap.size ≤ k, fun k => L k ∧ k < w.heap.size, (m.block yb hyl (fun e => (h6 yb (hfo yb e)).2.2.1 rfl)).trans h1, .inl h2, h3, hj, (h5.mono (fun k hk h => ⟨h, hk⟩)).mod m (fun k hk hl e => (h6 k (hfo k e)).2.2.2 hl.1), fun k hk => ?_, fun k hk => ⟨.inl (h7 k hk.1).1, (h7 k hk.1).2⟩⟩
 rcases hk with h | h
 ·exact ⟨.inl (h6 k h).1, (h6 k h).2.1, (h6 k h).2.2.1, fun hl => (h6 k h).2.2.2 hl.1⟩
 ·exact ⟨.inr h, by omega, by omega, fun hl => by have := hl.2; omega⟩
theorem IsRY.onDisk {F T B B' : Nat → Prop} {w w' : World} {zb xb jb n c : Nat} {p : Option Addr} {y : YS} {d' : DS} {J E S : Nat → Prop} (h1 : w.heap[zb]? = some (.cells #[.pointer (some ⟨jb, 0, none⟩), .slice p n c] 61 (0, 0))) (h2 : F zb)
  (r1 : IsRJ S w jb xb y.s) (r3 : ∀ k, S k → ¬ B k) (r4 : ∀ k, S k ∨ B k → J k ∧ k < w.heap.size) (h4 : IsEnts E w (.slice p n c) n y.l) (h5 : ∀ k, J k → F k ∧ ¬ k = zb ∧ ¬ E k) (h6 : ∀ k, E k → F k ∧ ¬ k = zb)
  (hd' : IsRefIn w' B' xb d') (hB : ∀ k, B' k → B k ∨ w.heap.size ≤ k) (m : Mod T w w') (hT : ∀ k, T k → B k) : IsRY (fun k => F k ∨ w.heap.size ≤ k) w' zb xb ⟨y.s, d', y.l⟩ := by
 have hj := IsRJD.onDisk r1 r3 r4 hd' hB m hT
 have hzl := heap_lt h1
 have hTJ : ∀ k, T k → J k := fun k hk => (r4 k (.inr (hT k hk))).1
 refine ⟨jb, n, p, c, fun k => J k ∨ w.heap.size ≤ k, fun k => E k ∧ k < w.heap.size, (m.block zb hzl (fun e => (h5 zb (hTJ zb e)).2.1 rfl)).trans h1, .inl h2, hj, (h4.mono (fun k hk h => ⟨h, hk⟩)).mod m (fun k hk he e => (h5 k (hTJ k e)).2.2 he.1), fun k hk => ?_, fun k hk => ⟨.inl (h6 k hk.1).1, (h6 k hk.1).2⟩⟩
 rcases hk with h | h
 ·exact ⟨.inl (h5 k h).1, (h5 k h).2.1, fun he => (h5 k h).2.2 he.1⟩
 ·exact ⟨.inr h, by omega, fun he => by have := he.2; omega⟩
section
variable {G T : Nat → Prop} {w : World} {tb db bl bm xb yb zb : Nat} {A B : (Nat → Prop) → World → Prop} {y : YS} {d : DS}
theorem pyFuse (kb : KeepsR B) (h : PairG (YA tb db bl bm yb y) B tb G w) (n : Int) (hn : n ≤ 9223372036854775807) :
  Calls Tryz.prog 15 #[.pointer (some ⟨db, 0, none⟩), .int .i64 n] w fun e w' => e = .returned (.tuple #[]) ∧ PairG (YA tb db bl bm yb ⟨y.s, { y.d with fuse := max n (-1) }, y.l⟩) B tb (fun k => G k ∨ w.heap.size ≤ k) w' ∧ Mod G w w' := by
 obtain ⟨P, R, p1, p2, p3, p4, p5⟩ := h
 obtain ⟨gb, jb, J, L, h1, h2, h3, h4, h5, h6, h7⟩ := IsY.ex p1
 obtain ⟨S, C, j1, j2, j3, j4⟩ := h4.ex
 refine (diskFuse db bl bm C y.d n w j2 hn).mono ?_
 rintro e w' ⟨rfl, hd', m⟩
 exact ⟨rfl, PairG.left (YA.keeps _ _ _ _ _ _) kb p2 p3 p4 p5 (IsY.onDisk h1 h2 h3 h4.tab j1 j3 j4 h5 h6 h7 hd' (fun _ h => .inl h) m (fun _ h => .inl h)) m (fun k hk e => .inl (h6 k (j4 k (.inr (by rw [e]; exact .inl rfl))).1).1)⟩
theorem pdFuse (kb : KeepsR B) (h : PairG (DA tb db bl bm d) B tb G w) (n : Int) (hn : n ≤ 9223372036854775807) :
  Calls Tryz.prog 15 #[.pointer (some ⟨db, 0, none⟩), .int .i64 n] w fun e w' => e = .returned (.tuple #[]) ∧ PairG (DA tb db bl bm { d with fuse := max n (-1) }) B tb (fun k => G k ∨ w.heap.size ≤ k) w' ∧ Mod G w w' := by
 obtain ⟨P, R, p1, p2, p3, p4, p5⟩ := h
 obtain ⟨ht, C, j2, j4⟩ := id p1
 refine (diskFuse db bl bm C d n w j2 hn).mono ?_
 rintro e w' ⟨rfl, hd', m⟩
 exact ⟨rfl, PairG.left (DA.keeps _ _ _ _ _) kb p2 p3 p4 p5 ⟨ht.mod m (fun e => (j4 db (.inl rfl)).2.1 e.symm), C, hd', fun k hk => ⟨.inl (j4 k hk).1, (j4 k hk).2.1, Nat.lt_of_lt_of_le (j4 k hk).2.2 m.size⟩⟩ m (fun k hk e => .inl (by rw [e]; exact (j4 db (.inl rfl)).1))⟩
theorem pyWrite (kb : KeepsR B) (h : PairG (YA tb db bl bm yb y) B tb G w) (i : Int) (v : Value) (l : List UInt8) (hv : IsRow T w v (bys l)) (hT : ∀ k, T k → ¬ G k ∧ k < w.heap.size) (hl : l.length ≤ 9223372036854775807) :
  Calls Tryz.prog 17 #[.pointer (some ⟨db, 0, none⟩), .int .i64 i, v] w fun e w' => e = .returned (.int .i64 (y.d.write i l).2) ∧ PairG (YA tb db bl bm yb ⟨y.s, (y.d.write i l).1, y.l⟩) B tb (fun k => G k ∨ w.heap.size ≤ k) w' ∧ Mod G w w' := by
 obtain ⟨P, R, p1, p2, p3, p4, p5⟩ := h
 obtain ⟨gb, jb, J, L, h1, h2, h3, h4, h5, h6, h7⟩ := IsY.ex p1
 obtain ⟨S, C, j1, j2, j3, j4⟩ := h4.ex
 refine (diskWrite db bl bm C T y.d i v l w j2 hv (fun ht => (hT db ht).1 (p3 _ (h6 _ (j4 db (.inr (.inl rfl))).1).1).1) hl).mono ?_
 rintro e w' ⟨C', rfl, hd', hC, m⟩
 exact ⟨rfl, PairG.left (YA.keeps _ _ _ _ _ _) kb p2 p3 p4 p5 (IsY.onDisk h1 h2 h3 h4.tab j1 j3 j4 h5 h6 h7 hd' hC m (fun _ h => h.imp id .inr)) m (fun k hk hm => .inl (h6 k (j4 k (.inr (by rcases hm with e | e; exact .inl e; exact .inr (.inr (.inl e))))).1).1)⟩
theorem pdWrite (kb : KeepsR B) (h : PairG (DA tb db bl bm d) B tb G w) (i : Int) (v : Value) (l : List UInt8) (hv : IsRow T w v (bys l)) (hT : ∀ k, T k → ¬ G k ∧ k < w.heap.size) (hl : l.length ≤ 9223372036854775807) :
  Calls Tryz.prog 17 #[.pointer (some ⟨db, 0, none⟩), .int .i64 i, v] w fun e w' => e = .returned (.int .i64 (d.write i l).2) ∧ PairG (DA tb db bl bm (d.write i l).1) B tb (fun k => G k ∨ w.heap.size ≤ k) w' ∧ Mod G w w' := by
 obtain ⟨P, R, p1, p2, p3, p4, p5⟩ := h
 obtain ⟨ht, C, j2, j4⟩ := id p1
 refine (diskWrite db bl bm C T d i v l w j2 hv (fun ht => (hT db ht).1 (p3 _ (j4 db (.inl rfl)).1).1) hl).mono ?_
 rintro e w' ⟨C', rfl, hd', hC, m⟩
 have hf : ∀ k, k = db ∨ k = bm → P k ∧ k ≠ tb := fun k hk => ⟨(j4 k (by rcases hk with e | e; exact .inl e; exact .inr (.inr (.inl e)))).1, (j4 k (by rcases hk with e | e; exact .inl e; exact .inr (.inr (.inl e)))).2.1⟩
 have htl := ht.lt
 refine ⟨rfl, PairG.left (DA.keeps _ _ _ _ _) kb p2 p3 p4 p5 ⟨ht.mod m (fun e => (hf tb e).2 rfl), _, hd'.here, fun k hk => ?_⟩ m (fun k hk hm => .inl (hf k hm).1)⟩
 have go : ∀ k, foot db bl bm C k → (P k ∨ w.heap.size ≤ k) ∧ k ≠ tb ∧ k < w'.heap.size := fun k h => ⟨.inl (j4 k h).1, (j4 k h).2.1, Nat.lt_of_lt_of_le (j4 k h).2.2 m.size⟩
 rcases hk with h | h | h | h
 ·exact go k (.inl h)
 ·exact go k (.inr (.inl h))
 ·exact go k (.inr (.inr (.inl h)))
 ·rcases hC k h.1 with h' | h'
  ·exact go k (.inr (.inr (.inr h')))
  ·exact ⟨.inr h', by omega, h.2⟩
theorem pdCrash (kb : KeepsR B) (h : PairG (DA tb db bl bm d) B tb G w) (v : Value) (keep : List Bool) (hv : IsRow T w v (keep.map Value.bool)) (hT : ∀ k, T k → ¬ G k ∧ k < w.heap.size) (hk : keep.length ≤ 9223372036854775807) :
  Calls Tryz.prog 13 #[.pointer (some ⟨db, 0, none⟩), v] w fun e w' => e = .returned (.tuple #[]) ∧ PairG (DA tb db bl bm (d.crash keep)) B tb (fun k => G k ∨ w.heap.size ≤ k) w' ∧ Mod G w w' := by
 obtain ⟨P, R, p1, p2, p3, p4, p5⟩ := h
 obtain ⟨ht, C, j2, j4⟩ := id p1
 have a1 := p3 _ (j4 db (.inl rfl)).1
 have a2 := p3 _ (j4 bl (.inr (.inl rfl))).1
 refine (diskCrash db bl bm C T d v keep w j2 hv ⟨fun ht => (hT _ ht).1 a1.1, fun ht => (hT _ ht).1 a2.1⟩ hk).mono ?_
 rintro e w' ⟨rfl, hd', m⟩
 have hf : ∀ k, (k = db ∨ k = bl ∨ k = bm) → foot db bl bm C k := fun k hm => by rcases hm with e | e | e; exact .inl e; exact .inr (.inl e); exact .inr (.inr (.inl e))
 exact ⟨rfl, PairG.left (DA.keeps _ _ _ _ _) kb p2 p3 p4 p5 ⟨ht.mod m (fun e => (j4 tb (hf tb e)).2.1 rfl), C, hd', fun k hk => ⟨.inl (j4 k hk).1, (j4 k hk).2.1, Nat.lt_of_lt_of_le (j4 k hk).2.2 m.size⟩⟩ m (fun k hk hm => .inl (j4 k (hf k hm)).1)⟩
theorem pxFuse (ka : Keeps tb A) (h : PairG A (YB xb zb y) tb G w) (n : Int) (hn : n ≤ 9223372036854775807) :
  Calls Tryz.prog 16 #[.pointer (some ⟨xb, 0, none⟩), .int .i64 n] w fun e w' => e = .returned (.tuple #[]) ∧ PairG A (YB xb zb ⟨y.s, { y.d with fuse := max n (-1) }, y.l⟩) tb (fun k => G k ∨ w.heap.size ≤ k) w' ∧ Mod G w w' := by
 obtain ⟨P, R, p1, p2, p3, p4, p5⟩ := h
 obtain ⟨jb, nn, p, c, J, E, h1, h2, ⟨S, C, r1, r2, r3, r4⟩, h4, h5, h6⟩ := IsRY.ex p2
 have hxb := r2.own.1
 refine (refFuse xb C y.d n w r2 hn).mono ?_
 rintro e w' ⟨rfl, hd', m⟩
 exact ⟨rfl, PairG.right ka (YB.keeps _ _ _) p1 p3 p4 p5 (IsRY.onDisk h1 h2 r1 r3 r4 h4 h5 h6 hd' (fun _ h => .inl h) m (fun k h => by rw [h]; exact hxb)) m (fun k hk hm => (h5 k (r4 k (.inr (by rw [hm]; exact hxb))).1).1)⟩
theorem rdFuse (ka : Keeps tb A) (h : PairG A (DB xb d) tb G w) (n : Int) (hn : n ≤ 9223372036854775807) :
  Calls Tryz.prog 16 #[.pointer (some ⟨xb, 0, none⟩), .int .i64 n] w fun e w' => e = .returned (.tuple #[]) ∧ PairG A (DB xb { d with fuse := max n (-1) }) tb (fun k => G k ∨ w.heap.size ≤ k) w' ∧ Mod G w w' := by
 obtain ⟨P, R, p1, p2, p3, p4, p5⟩ := h
 obtain ⟨C, r2, r4⟩ := id p2
 have hxb := r2.own.1
 refine (refFuse xb C d n w r2 hn).mono ?_
 rintro e w' ⟨rfl, hd', m⟩
 exact ⟨rfl, PairG.right ka (DB.keeps _ _) p1 p3 p4 p5 ⟨C, hd', fun k hk => ⟨.inl (r4 k hk).1, Nat.lt_of_lt_of_le (r4 k hk).2 m.size⟩⟩ m (fun k hk hm => (r4 k (by rw [hm]; exact hxb)).1)⟩
theorem pxWrite (ka : Keeps tb A) (h : PairG A (YB xb zb y) tb G w) (i : Int) (v : Value) (l : List UInt8) (hv : IsRow T w v (bys l)) (hT : ∀ k, T k → ¬ G k ∧ k < w.heap.size) (hl : l.length ≤ 9223372036854775807) :
  Calls Tryz.prog 19 #[.pointer (some ⟨xb, 0, none⟩), .int .i64 i, v] w fun e w' => e = .returned (.int .i64 (y.d.write i l).2) ∧ PairG A (YB xb zb ⟨y.s, (y.d.write i l).1, y.l⟩) tb (fun k => G k ∨ w.heap.size ≤ k) w' ∧ Mod G w w' := by
 obtain ⟨P, R, p1, p2, p3, p4, p5⟩ := h
 obtain ⟨jb, nn, p, c, J, E, h1, h2, ⟨S, C, r1, r2, r3, r4⟩, h4, h5, h6⟩ := IsRY.ex p2
 refine (refWrite xb C T y.d i v l w r2 hv (fun k hk hb => (hT k hk).1 (p4 k (h5 k (r4 k (.inr hb)).1).1).1) hl).mono ?_
 rintro e w' ⟨rfl, hd', m⟩
 exact ⟨rfl, PairG.right ka (YB.keeps _ _ _) p1 p3 p4 p5 (IsRY.onDisk h1 h2 r1 r3 r4 h4 h5 h6 hd' (fun _ h => h) m (fun _ h => h)) m (fun k hk hm => (h5 k (r4 k (.inr hm)).1).1)⟩
theorem rdWrite (ka : Keeps tb A) (h : PairG A (DB xb d) tb G w) (i : Int) (v : Value) (l : List UInt8) (hv : IsRow T w v (bys l)) (hT : ∀ k, T k → ¬ G k ∧ k < w.heap.size) (hl : l.length ≤ 9223372036854775807) :
  Calls Tryz.prog 19 #[.pointer (some ⟨xb, 0, none⟩), .int .i64 i, v] w fun e w' => e = .returned (.int .i64 (d.write i l).2) ∧ PairG A (DB xb (d.write i l).1) tb (fun k => G k ∨ w.heap.size ≤ k) w' ∧ Mod G w w' := by
 obtain ⟨P, R, p1, p2, p3, p4, p5⟩ := h
 obtain ⟨C, r2, r4⟩ := id p2
 refine (refWrite xb C T d i v l w r2 hv (fun k hk hb => (hT k hk).1 (p4 k (r4 k hb).1).1) hl).mono ?_
 rintro e w' ⟨rfl, hd', m⟩
 refine ⟨rfl, PairG.right ka (DB.keeps _ _) p1 p3 p4 p5 ⟨_, hd'.here, fun k hk => ⟨hk.1.imp (fun h => (r4 k h).1) id, hk.2⟩⟩ m (fun k hk hm => (r4 k hm).1)⟩
theorem rdCrash (ka : Keeps tb A) (h : PairG A (DB xb d) tb G w) (v : Value) (keep : List Bool) (hv : IsRow T w v (keep.map Value.bool)) (hT : ∀ k, T k → ¬ G k ∧ k < w.heap.size) (hk : keep.length ≤ 9223372036854775807) :
  Calls Tryz.prog 14 #[.pointer (some ⟨xb, 0, none⟩), v] w fun e w' => e = .returned (.tuple #[]) ∧ PairG A (DB xb (d.crash keep)) tb (fun k => G k ∨ w.heap.size ≤ k) w' ∧ Mod G w w' := by
 obtain ⟨P, R, p1, p2, p3, p4, p5⟩ := h
 obtain ⟨C, r2, r4⟩ := id p2
 refine (refCrash xb C T d v keep w r2 hv (fun k hk hb => (hT k hk).1 (p4 k (r4 k hb).1).1) hk).mono ?_
 rintro e w' ⟨rfl, hd', m⟩
 exact ⟨rfl, PairG.right ka (DB.keeps _ _) p1 p3 p4 p5 ⟨C, hd', fun k hk => ⟨.inl (r4 k hk).1, Nat.lt_of_lt_of_le (r4 k hk).2 m.size⟩⟩ m (fun k hk hm => (r4 k hm).1)⟩
end
end Go.Proofs.YtdfahddpkkeldaaGreat

/- cflref22.Diary: Add. (Printed by wip/tools/gen_refyadd.py.) -/
namespace Go.Proofs.YtdfahddpkkeldaaGreat
open Go.RowKit
set_option maxRecDepth 100000 in
theorem refDiaryAdd_bad (zb nb c : Nat) (k : Int) (p : Option Addr) (w : World) (hbad : entErr k nb ≠ 0) :
  Calls Tryz.prog 12 #[.pointer (some ⟨zb, 0, none⟩), .agg #[.int .i64 k, .slice p nb c]] w fun e w' => e = .returned (.int .i64 (entErr k nb)) ∧ Mod nil w w' := by
 refine (?_ : ∀ Post : Ending → World → Prop, Hid (∀ e w', (e = .returned (.int .i64 (entErr k nb)) ∧ Mod nil w w') → Post e w') → Calls Tryz.prog 12 #[.pointer (some ⟨zb, 0, none⟩), .agg #[.int .i64 k, .slice p nb c]] w Post) _ (Lib.hid (fun _ _ h => h))
 intro Post HPOST
 have HB : Hid (∀ W, Calls Tryz.prog 37 #[.agg #[.int .i64 k, .slice p nb c]] W fun e w' => e = .returned (.int .i64 (entErr k nb)) ∧ Mod nil W w') := Lib.hid (fun W => refBad k p nb c W)
 obtain ⟨r, hr⟩ : ∃ r, entErr k nb = r := ⟨_, rfl⟩
 rw [hr] at HB HPOST hbad
 have hr0 : (r == 0) = false := by simpa using hbad
 clear hr hbad
 go_enter Tryz.func12, Tryz.ntmps12
 go_wp2_with fail
 generalize hw1 : World.alloc w _ = w1
 have HM1 : Hid (Mod nil w w1) := Lib.hid (by rw [← hw1]; exact (Mod.refl _ _).alloc _)
 clear hw1
 refine (HB.out _).mono ?_
 rintro e w2 ⟨rfl, hm2⟩
 have HE := Lib.hid (HPOST.out _ w2 ⟨rfl, HM1.out.thenNil hm2⟩)
 clear hm2
 go_wp2_with fail
 exact HE.out
set_option maxRecDepth 100000 in
set_option maxHeartbeats 4000000 in
theorem refDiaryAdd (F T : Nat → Prop) (zb xb nb c k : Nat) (y : YS) (body : List UInt8) (p : Option Addr) (w : World) (hy : IsRY F w zb xb y) (hlim : y.s.Lim (y.d.lasts.length / 2)) (hrow : IsRow T w (.slice p nb c) (bys body)) (hT : ∀ j, T j → j < w.heap.size ∧ ¬ F j)
  (hk : k ≤ 255) (hnb : nb ≤ 60000) (hll : y.l.length ≤ 1000000) :
  Calls Tryz.prog 12 #[.pointer (some ⟨zb, 0, none⟩), .agg #[.int .i64 (k : Nat), .slice p nb c]] w fun e w' => e = .returned (.int .i64 (y.add ⟨(k : Nat), body⟩).2) ∧ IsRY (fun j => F j ∨ w.heap.size ≤ j) w' zb xb (y.add ⟨(k : Nat), body⟩).1 ∧ Mod F w w' := by
 refine (?_ : ∀ Post : Ending → World → Prop, Hid (∀ e w', (e = .returned (.int .i64 (y.add ⟨(k : Nat), body⟩).2) ∧ IsRY (fun j => F j ∨ w.heap.size ≤ j) w' zb xb (y.add ⟨(k : Nat), body⟩).1 ∧ Mod F w w') → Post e w') → Calls Tryz.prog 12 #[.pointer (some ⟨zb, 0, none⟩), .agg #[.int .i64 (k : Nat), .slice p nb c]] w Post) _ (Lib.hid (fun _ _ h => h))
 intro Post HPOST
 have hbl : body.length = nb := by
  obtain ⟨_, _, h, _⟩ := hrow
  simp only [Value.slice.injEq, bys_length] at h
  exact h.2.1.symm
 have HBL := Lib.hid hbl
 have HTT := Lib.hid hT
 have HR0 := Lib.hid hrow
 have HLIM := Lib.hid hlim
 obtain ⟨jb, n, pl, cl, J, E, hz0, hFz, hjd, hen, hJ, hE⟩ := hy.ex
 have hyn : n = y.l.length := hen.1.symm
 have hlln : n ≤ 1000000 := by omega
 have HYN := Lib.hid hyn
 have HZ0 := Lib.hid hz0
 have HFZ := Lib.hid hFz
 have HJD0 := Lib.hid hjd
 have HEN0 := Lib.hid hen
 have HJ := Lib.hid hJ
 have HE := Lib.hid hE
 have hzl := heap_lt hz0
 have y0 := cell_of hz0 0
 have y1 := cell_of hz0 1
 simp only [List.getElem?_toArray, List.getElem?_cons_zero, List.getElem?_cons_succ] at y0 y1
 have HY0 := Lib.hid y0
 have HY1 := Lib.hid y1
 obtain ⟨X, hX⟩ : ∃ X, w.heap.size = X := ⟨_, rfl⟩
 have HX := Lib.hid hX
 have hlX : zb < X := by omega
 clear hbl hT hrow hlim hll hyn hz0 hFz hjd hen hJ hE hzl y0 y1 hX hy
 go_enter Tryz.func12, Tryz.ntmps12
 go_wp2_with fail
 (try rw [HX.out])
 generalize hw1 : World.alloc w _ = w1
 have hx1 : w1.heap[X]? = some (.cells #[.int .i64 (k : Nat), .slice p nb c] 42 (0, 0)) := by rw [← hw1, ← HX.out]; exact heap_alloc_new _ _
 have hm1 : Mod nil w w1 := by rw [← hw1]; exact (Mod.refl _ _).alloc _
 have HM1 := Lib.hid hm1
 have HX1 := Lib.hid hx1
 have HB : Hid (Calls Tryz.prog 37 #[.agg #[.int .i64 (k : Nat), .slice p nb c]] w1 fun e w' => e = .returned (.int .i64 0) ∧ Mod nil w1 w') := Lib.hid (by
  have h := refBad (k : Nat) p nb c w1
  rwa [show entErr (k : Nat) nb = 0 from by unfold entErr; rw [if_neg (by omega), if_neg (by omega)]] at h)
 clear hw1 hx1 hm1
 refine HB.out.mono ?_
 rintro e w3 ⟨rfl, hm3⟩
 have HM3 := Lib.hid (HM1.out.thenNil hm3)
 have HX3 := Lib.hid (hm3.keep HX1.out)
 have hX3 : X < w3.heap.size := heap_lt HX3.out
 have HJD3 : Hid (IsRJD (fun j => J j ∧ j < X) w3 jb xb y.s y.d) := Lib.hid ((HJD0.out.mono (G := fun j => J j ∧ j < X) (fun j hj h => ⟨h, by have := HX.out; omega⟩)).modNil HM3.out)
 have HR3 : Hid (IsRow T w3 (.slice p nb c) (bys body)) := Lib.hid (HR0.out.modNil HM3.out)
 have hw8 : IntKind.u8.wrap (k : Int) = ((UInt8.ofNat k).toNat : Int) := by rw [IntKind.wrap_u8]; simp
 obtain ⟨w4, hw4⟩ : ∃ w4, (w3.alloc (.cells #[.int .u8 (UInt8.ofNat k).toNat] 5)).drew = w4 := ⟨_, rfl⟩
 have hm4 : Mod nil w3 w4 := by rw [← hw4]; exact ((Mod.refl _ _).alloc _).drew
 have hv4 : IsVec (fun j => w3.heap.size ≤ j) w4 5 1 (.slice (some ⟨w3.heap.size, 0, none⟩) 1 1) 1 (bys [UInt8.ofNat k]) := by rw [← hw4]; exact (u8_one _ w3 _ rfl).modNil ((Mod.refl _ _).drew)
 obtain ⟨v8, w8, hrun8, hvec8, hmod8⟩ := bytes_append (l := [UInt8.ofNat k]) (m := body) 40 (by simpa using hv4) (HR3.out.modNil hm4) (by rw [HBL.out]; simp; omega)
 have hl8 : ([UInt8.ofNat k] ++ body).length = nb + 1 := by simp [HBL.out]
 rw [hl8] at hvec8
 obtain ⟨p8, c8, hv8e, hcap8, hcm8⟩ := vecCap hvec8
 subst hv8e
 have hm48 : Mod nil w3 w8 := hm4.new hmod8 (fun j h => h)
 have hrd : IsRow (fun j => X < j ∧ j < w8.heap.size) w8 (.slice p8 (nb + 1) c8) (bys (recOf ⟨(k : Nat), body⟩)) := by
  have h := hvec8.row.here
  refine h.mono (fun j _ h => ⟨?_, h.2⟩)
  rcases h.1 with h1 | h1
  ·have h1' : w3.heap.size ≤ j := h1; omega
  ·have := hm4.size; have h1' : w4.heap.size ≤ j := h1; omega
 have HRD := Lib.hid hrd
 have HM8 := Lib.hid hm48
 have hmJ8 : Mod (fun j => J j ∧ j < X) w3 w8 := HM8.out.ofNil
 rw [← hw4] at hrun8
 have HAPP : Hid (∀ W, Mod nil w8 W → Calls Tryz.prog 38 #[.pointer (some ⟨jb, 0, none⟩), .slice p8 (nb + 1) c8] W fun e w' => e = .returned (.int .i64 (y.s.appends y.d (recOf ⟨(k : Nat), body⟩)).2.2) ∧ IsRJD (fun j => (J j ∧ j < X) ∨ w8.heap.size ≤ j) w' jb xb (y.s.appends y.d (recOf ⟨(k : Nat), body⟩)).1 (y.s.appends y.d (recOf ⟨(k : Nat), body⟩)).2.1 ∧ Mod (fun j => J j ∧ j < X) W w') := Lib.hid (fun W m => by
  refine (sixAppend _ _ jb xb (nb + 1) c8 p8 (recOf ⟨(k : Nat), body⟩) y.s y.d W (HJD3.out.modNil (HM8.out.thenNil m)) HLIM.out (HRD.out.modNil m) (fun j hj => ⟨Nat.lt_of_lt_of_le hj.2 m.size, fun h => by have := h.2; have := hj.1; omega⟩) hcap8 hcm8).mono ?_
  rintro e w' ⟨rfl, hj, hmm⟩
  exact ⟨rfl, hj.mono (fun j _ h => h.imp id (fun h => Nat.le_trans m.size h)), hmm⟩)
 obtain ⟨ER, hER⟩ : ∃ ER, (y.s.appends y.d (recOf ⟨(k : Nat), body⟩)).2.2 = ER := ⟨_, rfl⟩
 rw [hER] at HAPP
 have HER := Lib.hid hER
 have HEE : Hid (¬ entErr (k : Nat) nb ≠ 0) := Lib.hid (fun h => h (by unfold entErr; rw [if_neg (by omega), if_neg (by omega)]))
 have HK : Hid (∀ W, Mod (fun j => J j ∧ j < X) w3 W → (fun w' => w'.cell? ⟨zb, 0, none⟩ = some (.pointer (some ⟨jb, 0, none⟩)) ∧ w'.cell? ⟨X, 0, none⟩ = some (.int .i64 (k : Nat)) ∧ w'.cell? ⟨X, 1, none⟩ = some (.slice p nb c)) W) := Lib.hid (fun W m => by
  have x0 := cell_of HX3.out 0
  have x1 := cell_of HX3.out 1
  simp only [List.getElem?_toArray, List.getElem?_cons_zero, List.getElem?_cons_succ] at x0 x1
  have hJX : ¬ (J X ∧ X < X) := by omega
  exact ⟨cell_kept (cell_kept HY0.out HM3.out (by have := HX.out; omega) (not_nil _)) m (by omega) (fun h => (HJ.out zb h.1).2.1 rfl), cell_kept x0 m hX3 hJX, cell_kept x1 m hX3 hJX⟩)
 clear hm3 hw4 hv4 hvec8 hmod8 hm48 hrd hm4 hl8 hER HB
 go_upto_region 3 with (fail)
 refine region_till (fun w' => w'.cell? ⟨zb, 0, none⟩ = some (.pointer (some ⟨jb, 0, none⟩)) ∧ w'.cell? ⟨X, 0, none⟩ = some (.int .i64 (k : Nat)) ∧ w'.cell? ⟨X, 1, none⟩ = some (.slice p nb c)) 12 (by kernel_rfl) ?_
 refine sF 0 (fun _ => HK.out _ mD) ?_
 refine sF 1 (fun _ => HK.out _ mD) ?_
 refine sF 2 (fun _ => HK.out _ mD) ?_
 refine sT 3 (HK.out _ mD) ?_
 refine sF 4 (fun _ => HK.out _ mD) ?_
 refine sT 5 (HK.out _ mD) ?_
 refine sF 6 (fun _ => HK.out _ mD) ?_
 refine sF 8 (fun _ => HK.out _ mD) ?_
 refine sT 9 (HK.out _ mD) ?_
 refine rT 7 (fun K hK => ?_)
 go_simp
 refine hK.out _ _ (fun _ => HK.out _ mD) ?_
 clear hK K
 (try simp only [Act.put, pT])
 refine rT 10 (fun K hK => ?_)
 refine step_append_run rfl _ _ _ _ rfl rfl rfl hrun8 ?_
 refine hK.out _ _ (fun _ => HK.out _ mD) ?_
 clear hK K
 (try simp only [Act.put, pT])
 refine rT 11 (fun K hK => ?_)
 go_simp
 refine (HAPP.out _ ?_).mono ?_
 ·exact mD
 rintro e w5 ⟨rfl, hj5, hm5⟩
 have hm5' : Mod (fun j => J j ∧ j < X) w3 w5 := HM8.out.ofNil.trans ((show Mod nil w8 _ from mD).ofNil.trans hm5 (fun _ _ h => h)) (fun _ _ h => h)
 refine hK.out _ _ (fun _ => HK.out _ mD) ?_
 clear hK K
 (try simp only [Act.put, pT])
 refine rT 12 (fun K hK => ?_)
 go_simp
 refine hK.out _ _ (fun h => (by simp at h)) ?_
 clear hK K
 (try simp only [Act.put, pT])
 refine till_done (by kernel_rfl) ?_ _
 have HM5 := Lib.hid hm5'
 have hs5 := HM5.out.size
 have hs8 := HM8.out.size
 have HJD5 : Hid (IsRJD (fun j => ((J j ∧ j < X) ∨ w8.heap.size ≤ j) ∧ j < w5.heap.size) w5 jb xb (y.s.appends y.d (recOf ⟨(k : Nat), body⟩)).1 (y.s.appends y.d (recOf ⟨(k : Nat), body⟩)).2.1) := Lib.hid (hj5.mono (fun j hj h => ⟨h, hj⟩))
 have HMW5 : Hid (Mod (fun j => J j ∧ j < X) w w5) := Lib.hid (HM3.out.ofNil.trans HM5.out (fun _ _ h => h))
 have HEN5 : Hid (IsEnts (fun j => E j ∧ j < X) w5 (.slice pl n cl) n y.l) := Lib.hid ((HEN0.out.mono (T := fun j => E j ∧ j < X) (fun j hj h => ⟨h, by have := HX.out; omega⟩)).mod HMW5.out (fun j _ hj h => (HJ.out j h.1).2.2 hj.1))
 have HZ5 : Hid (w5.heap[zb]? = _) := Lib.hid ((HMW5.out.block zb (by have := HX.out; omega) (fun h => (HJ.out zb h.1).2.1 rfl)).trans HZ0.out)
 have hX5 : X < w5.heap.size := by omega
 have HXX : Hid (w5.heap[X]? = _) := Lib.hid ((HM5.out.block X hX3 (by omega)).trans HX3.out)
 have HFM : Hid (Mod F w w5) := Lib.hid (HMW5.out.mono (fun j _ h => (HJ.out j h.1).1))
 have HJF : Hid (∀ j, ((J j ∧ j < X) ∨ w8.heap.size ≤ j) ∧ j < w5.heap.size → (F j ∨ w.heap.size ≤ j) ∧ ¬ j = zb ∧ ¬ (E j ∧ j < X)) := Lib.hid (fun j hj => by
  rcases hj.1 with h | h
  ·have := HJ.out j h.1; exact ⟨.inl this.1, this.2.1, fun hl => this.2.2 hl.1⟩
  ·have := HX.out; exact ⟨.inr (by omega), by omega, by omega⟩)
 by_cases h0 : ER = 0
 ·subst h0
  have HADD : Hid (y.add ⟨(k : Nat), body⟩ = (⟨(y.s.appends y.d (recOf ⟨(k : Nat), body⟩)).1, (y.s.appends y.d (recOf ⟨(k : Nat), body⟩)).2.1, y.l ++ [⟨(k : Nat), body⟩]⟩, 0)) := Lib.hid (by
   unfold YS.add
   simp only [HBL.out]
   rw [if_neg HEE.out, if_pos HER.out])
  obtain ⟨E', hE'⟩ : ∃ E' : Nat → Prop, E' = fun j => E j ∧ j < X := ⟨_, rfl⟩
  have HEE' : Hid (∀ j, E' j ↔ E j ∧ j < X) := Lib.hid (fun j => by rw [hE'])
  rw [← hE'] at HEN5
  clear hE'
  obtain ⟨E0, hE0⟩ : ∃ E0 : Nat → Prop, E0 = E := ⟨_, rfl⟩
  rw [← hE0] at HEE' HJF HEN0 HJ HE
  clear hE0 E
  obtain ⟨E, hEE⟩ : ∃ E : Nat → Prop, E = E' := ⟨_, rfl⟩
  subst hEE
  have HZO : Hid (¬ (Value.slice pl n cl).ownBlock = some zb) := Lib.hid (fun ho => (HE.out zb ((HEE'.out zb).1 (HEN5.out.own ho).1).1).2 rfl)
  have HXO : Hid (¬ (Value.slice pl n cl).ownBlock = some X) := Lib.hid (fun ho => by have := ((HEE'.out X).1 (HEN5.out.own ho).1).2; omega)
  have HR5 : Hid (IsRow T w5 (.slice p nb c) (bys body)) := Lib.hid (HR0.out.mod HFM.out (fun j _ hj => (HTT.out j hj).2))
  have HCL : Hid (∀ W, Mod nil w5 W → Calls Tryz.prog 34 #[.slice p nb c] W fun e w' => ∃ p c, e = .returned (.slice p nb c) ∧ IsVec (fun k => w5.heap.size ≤ k) w' 5 1 (.slice p nb c) nb (bys body) ∧ Mod nil W w') := Lib.hid (fun W m => by
   refine (refCopyBytes T _ body W (HR5.out.modNil m) (by rw [HBL.out]; omega)).mono ?_
   rintro e w' ⟨v, rfl, hv, hmm⟩
   rw [HBL.out] at hv
   obtain ⟨p', c', rfl⟩ := hv.form
   exact ⟨p', c', rfl, hv.mono (fun k _ h => Nat.le_trans m.size h), hmm⟩)
  clear HK
  have HK : Hid (∀ W, Mod (fun k => (Value.slice pl n cl).ownBlock = some k) w5 W → (fun w' => w'.cell? ⟨zb, 1, none⟩ = some (.slice pl n cl) ∧ w'.cell? ⟨X, 0, none⟩ = some (.int .i64 (k : Nat)) ∧ w'.cell? ⟨X, 1, none⟩ = some (.slice p nb c)) W) := Lib.hid (fun W m => by
   have c1 := cell_of HZ5.out 1
   have x0 := cell_of HXX.out 0
   have x1 := cell_of HXX.out 1
   simp only [List.getElem?_toArray, List.getElem?_cons_zero, List.getElem?_cons_succ] at c1 x0 x1
   exact ⟨cell_kept c1 m (heap_lt HZ5.out) HZO.out, cell_kept x0 m hX5 HXO.out, cell_kept x1 m hX5 HXO.out⟩)
  clear hj5 hm5 hm5' hs5 hs8 hrun8
  go_upto_region 5 with (fail)
  refine region_till (fun w' => w'.cell? ⟨zb, 1, none⟩ = some (.slice pl n cl) ∧ w'.cell? ⟨X, 0, none⟩ = some (.int .i64 (k : Nat)) ∧ w'.cell? ⟨X, 1, none⟩ = some (.slice p nb c)) 15 (by kernel_rfl) ?_
  refine sF 0 (fun _ => HK.out _ mD) ?_
  refine sF 1 (fun _ => HK.out _ mD) ?_
  refine sF 2 (fun _ => HK.out _ mD) ?_
  refine sF 3 (fun _ => HK.out _ mD) ?_
  refine sT 4 (HK.out _ mD) ?_
  refine sF 5 (fun _ => HK.out _ mD) ?_
  refine sT 6 (HK.out _ mD) ?_
  refine sF 7 (fun _ => HK.out _ mD) ?_
  refine sT 8 (HK.out _ mD) ?_
  refine rT 9 (fun K hK => ?_)
  go_simp
  refine (HCL.out _ ?_).mono ?_
  ·exact mD
  rintro e w6 ⟨p6, c6, rfl, hv6, hm6⟩
  have hm6' : Mod (fun k => (Value.slice pl n cl).ownBlock = some k) w5 w6 := (show Mod (fun k => (Value.slice pl n cl).ownBlock = some k) w5 _ from mD).thenNil hm6
  have hm6n : Mod nil w5 w6 := (show Mod nil w5 _ from mD).thenNil hm6
  obtain ⟨v7, w7, hrun7, hv7, hm7, ho7⟩ := ents_append (R := fun k => w5.heap.size ≤ k) (w := w6) (e := ⟨(k : Nat), body⟩) 59 ((HEN5.out.mono (T := fun k => E k ∨ w5.heap.size ≤ k) (fun _ _ h => .inl h)).modNil hm6n) hv6.row (fun k hk => ⟨.inr hk, fun ho => by have := (HEN5.out.own ho).2; have : w5.heap.size ≤ k := hk; omega⟩) rfl (by omega)
  obtain ⟨p7, c7, rfl⟩ := hv7.form
  have hm7' : Mod (fun k => (Value.slice pl n cl).ownBlock = some k) w5 w7 := hm6'.trans hm7 (fun _ _ h => h)
  have hb7 := (hm7'.block zb (heap_lt HZ5.out) HZO.out).trans HZ5.out
  have z7 := free_of hb7 1
  have f7 := (HK.out w7 hm7').1
  have HV7 := Lib.hid hv7
  have HM7 := Lib.hid hm7'
  have HB7 := Lib.hid hb7
  have HO7 := Lib.hid ho7
  clear hv7 hb7 ho7 hv6
  refine hK.out _ _ (fun _ => HK.out _ mD) ?_
  clear hK K
  (try simp only [Act.put, pT])
  refine sF 10 (fun _ => HK.out _ mD) ?_
  refine rT 11 (fun K hK => ?_)
  go_simp
  refine hK.out _ _ (fun _ => HK.out _ mD) ?_
  clear hK K
  (try simp only [Act.put, pT])
  refine rT 12 (fun K hK => ?_)
  refine step_append_run rfl _ _ _ _ rfl rfl rfl hrun7 ?_
  refine hK.out _ _ (fun _ => HK.out _ mD) ?_
  clear hK K
  (try simp only [Act.put, pT])
  refine sF 13 (fun _ => HK.out _ mD) ?_
  refine sF 14 (fun _ => HK.out _ mD) ?_
  refine rT 15 (fun K hK => ?_)
  go_simp
  refine hK.out _ _ (fun h => (by simp at h)) ?_
  clear hK K
  (try simp only [Act.put, pT])
  refine till_done (by kernel_rfl) ?_ _
  have g1 := heap_setCell_same HB7.out (.slice p7 (n + 1) c7) (off := 1)
  simp only [List.setIfInBounds_toArray, List.set_cons_succ, List.set_cons_zero] at g1
  have hm9 : Mod (· = zb) w7 (w7.setCell ⟨zb, 1, none⟩ (.slice p7 (n + 1) c7)) := (Mod.refl _ _).setCell _ _ (fun _ => rfl)
  generalize World.setCell w7 _ _ = w9 at g1 hm9 ⊢
  have hm59 : Mod (fun j => (Value.slice pl n cl).ownBlock = some j ∨ j = zb) w5 w9 := (HM7.out.mono (fun _ _ h => .inl h)).trans hm9 (fun _ _ h => .inr h)
  have hownE : ∀ j, (Value.slice pl n cl).ownBlock = some j → E0 j ∧ j < X := fun j h => (HEE'.out j).1 (HEN5.out.own h).1
  have HEND := Lib.hid (HPOST.out _ w9 ⟨by rw [HADD.out], by
   rw [HADD.out]
   refine ⟨jb, n + 1, p7, c7, fun j => ((J j ∧ j < X) ∨ w8.heap.size ≤ j) ∧ j < w5.heap.size, fun j => E j ∨ w5.heap.size ≤ j, g1, .inl HFZ.out, ?_, ?_, fun j hj => ?_, fun j hj => ?_⟩
   ·exact HJD5.out.mod hm59 (fun j _ hj h => by
     have h3 := HJF.out j hj
     rcases h with h | h
     ·exact h3.2.2 (hownE j h)
     ·exact h3.2.1 h)
   ·exact (HV7.out.mono (T := fun j => E j ∨ w5.heap.size ≤ j) (fun j _ h => h.elim id (fun h => .inr (Nat.le_trans hm6n.size h)))).mod hm9 (fun j _ hj h => by
     rcases hj with h' | h'
     ·exact (HE.out j ((HEE'.out j).1 h').1).2 h
     ·omega)
   ·have h3 := HJF.out j hj
    exact ⟨h3.1, h3.2.1, fun he => he.elim (fun he => h3.2.2 ((HEE'.out j).1 he)) (fun he => by have := hj.2; omega)⟩
   ·rcases hj with h | h
    ·exact ⟨.inl (HE.out j ((HEE'.out j).1 h).1).1, (HE.out j ((HEE'.out j).1 h).1).2⟩
    ·exact ⟨.inr (by have := HX.out; omega), by omega⟩, HFM.out.trans (hm59.mono (T := F) (fun j _ h => h.elim (fun h => (HE.out j (hownE j h).1).1) (fun h => by rw [h]; exact HFZ.out))) (fun _ _ h => h)⟩)
  clear g1 hm9 hm59 hownE hm6n
  go_wp2_with fail
  exact HEND.out
 ·have h0b : (ER == 0) = false := by simpa using h0
  have HADD : Hid (y.add ⟨(k : Nat), body⟩ = (⟨(y.s.appends y.d (recOf ⟨(k : Nat), body⟩)).1, (y.s.appends y.d (recOf ⟨(k : Nat), body⟩)).2.1, y.l⟩, ER)) := Lib.hid (by
   unfold YS.add
   simp only [HBL.out]
   rw [if_neg HEE.out, HER.out, if_neg h0])
  have HEND := Lib.hid (HPOST.out _ w5 ⟨by rw [HADD.out], by
   rw [HADD.out]
   exact ⟨jb, n, pl, cl, _, _, HZ5.out, .inl HFZ.out, HJD5.out, HEN5.out, HJF.out, fun j hj => ⟨.inl (HE.out j hj.1).1, (HE.out j hj.1).2⟩⟩, HFM.out⟩)
  clear hj5 hm5 hm5' hs5 hs8 hrun8
  go_wp2_with fail
  exact HEND.out
end Go.Proofs.YtdfahddpkkeldaaGreat

/- cflref22.OpenDiary. (Printed by wip/tools/gen_refyopen.py.) -/
namespace Go.Proofs.YtdfahddpkkeldaaGreat
open Go.RowKit
set_option maxRecDepth 100000 in
set_option maxHeartbeats 4000000 in
theorem refDiaryOpen (F : Nat → Prop) (xb : Nat) (d : DS) (w : World) (h : IsRD F w xb d) (hr64 : ∀ i, (d.read i).1.length ≤ 64) (h64 : d.down = false → ∀ i : Nat, i < d.lasts.length → (d.read (i : Int)).1.length = 64) (hrl : ∀ r ∈ d.opens.recs, r.length ≤ 60000) (hrn : d.opens.recs.length ≤ 100000) :
    Calls Tryz.prog 10 #[.pointer (some ⟨xb, 0, none⟩)] w fun e w' => (∃ zb, w.heap.size ≤ zb ∧ (d.opens.has = false ∧ ∀ r ∈ d.opens.recs, r ≠ []) ∧ e = .returned (.tuple #[.pointer (some ⟨zb, 0, none⟩), .int .i64 0]) ∧ IsRY (fun j => F j ∨ w.heap.size ≤ j) w' zb xb ⟨d.opens, d, d.opens.recs.map enOf⟩ ∧ Mod nil w w') ∨ (¬ (d.opens.has = false ∧ ∀ r ∈ d.opens.recs, r ≠ []) ∧ e = .returned (.tuple #[.pointer none, .int .i64 2]) ∧ Mod nil w w') := by
  refine (?_ : ∀ Post : Ending → World → Prop, Hid (∀ e w', ((∃ zb, w.heap.size ≤ zb ∧ (d.opens.has = false ∧ ∀ r ∈ d.opens.recs, r ≠ []) ∧ e = .returned (.tuple #[.pointer (some ⟨zb, 0, none⟩), .int .i64 0]) ∧ IsRY (fun j => F j ∨ w.heap.size ≤ j) w' zb xb ⟨d.opens, d, d.opens.recs.map enOf⟩ ∧ Mod nil w w') ∨ (¬ (d.opens.has = false ∧ ∀ r ∈ d.opens.recs, r ≠ []) ∧ e = .returned (.tuple #[.pointer none, .int .i64 2]) ∧ Mod nil w w')) → Post e w') → Calls Tryz.prog 10 #[.pointer (some ⟨xb, 0, none⟩)] w Post) _ (Lib.hid (fun _ _ h => h))
  intro Post HPOST
  obtain ⟨B0, hB0, hB0F⟩ := h
  have HRL := Lib.hid hrl
  have HRN := Lib.hid hrn
  have HOP := Lib.hid (sixOpen (fun k => F k ∧ k < w.heap.size) B0 xb d w hB0 (fun k hk => hB0F k hk) hr64 h64)
  clear hB0 hB0F hr64 h64 hrl hrn
  go_enter Tryz.func10, Tryz.ntmps10
  go_wp2_with fail
  refine HOP.out.mono ?_
  rintro e w1 ⟨jb, rfl, hjb, hj1, hm1⟩
  have HJ1 : Hid (IsRJD (fun k => (F k ∨ w.heap.size ≤ k) ∧ k < w1.heap.size) w1 jb xb d.opens d) := Lib.hid (hj1.mono (fun k hk h => ⟨h.imp (fun h => h.1) id, hk⟩))
  obtain ⟨S, B, r1, r2, r3, r4⟩ := HJ1.out
  obtain ⟨pp, cp, nr, pr, cr, hb1, -, htx1⟩ := r1.ex
  have hjl := heap_lt hb1
  have hnr := htx1.len
  have HTX1 : Hid (IsTextsC (fun k => k < w1.heap.size) w1 (.slice pr nr cr) nr d.opens.recs) := Lib.hid (htx1.mono (fun k hk _ => hk))
  have j3 := cell_of hb1 3
  have j5 := cell_of hb1 5
  simp only [List.getElem?_toArray, List.getElem?_cons_zero, List.getElem?_cons_succ] at j3 j5
  have HM1 := Lib.hid hm1
  clear r1 r2 r3 r4 hb1 htx1 hj1 hm1 HOP
  go_upto_region 2 with (fail)
  obtain ⟨zb, hzb⟩ : ∃ zb, w1.heap.size = zb := ⟨_, rfl⟩
  (try rw [hzb])
  generalize hw2 : World.alloc w1 _ = w2
  have hz2 : w2.heap[zb]? = some (.cells #[.pointer (some ⟨jb, 0, none⟩), .slice none 0 0] 61 (0, 0)) := by rw [← hw2, ← hzb]; exact heap_alloc_new _ _
  have hm2 : Mod nil w1 w2 := by rw [← hw2]; exact (Mod.refl _ _).alloc _
  have hs2 : w2.heap.size = zb + 1 := by rw [← hw2, World.size_alloc, hzb]
  have y0 := cell_of hz2 0
  simp only [List.getElem?_toArray, List.getElem?_cons_zero, List.getElem?_cons_succ] at y0
  have jj3 := cell_kept j3 hm2 hjl (not_nil _)
  have jj5 := cell_kept j5 hm2 hjl (not_nil _)
  obtain ⟨O, hO⟩ : ∃ O, d.opens = O := ⟨_, rfl⟩
  have HO := Lib.hid hO
  rw [hO] at HJ1 HRL HRN HPOST HTX1 jj3 hnr
  have HZ2 := Lib.hid hz2
  have HJ5 := Lib.hid jj5
  have HM2 := Lib.hid (HM1.out.thenNil hm2)
  have HM12 := Lib.hid hm2
  have HS2 := Lib.hid hs2
  have HZB := Lib.hid hzb
  have HNR := Lib.hid hnr
  have hnrb : nr ≤ 100000 := by rw [← hnr]; exact HRN.out
  have hjz : jb < zb := by omega
  have hwz : w.heap.size ≤ zb := by have := HM1.out.size; omega
  have HTX2 : Hid (IsTextsC (fun k => k < zb) w2 (.slice pr nr cr) nr O.recs) := Lib.hid ((HTX1.out.modNil hm2).mono (fun k _ h => by omega))
  have HBAD : Hid (¬ (O.has = false ∧ ∀ r ∈ O.recs, r ≠ []) → ∀ w', Mod nil w w' → Post (.returned (.tuple #[.pointer none, .int .i64 2])) w') := Lib.hid (fun hb w' hm => HPOST.out _ _ (.inr ⟨hb, rfl, hm⟩))
  obtain ⟨hs, hhs⟩ : ∃ hs, O.has = hs := ⟨_, rfl⟩
  have HHS := Lib.hid hhs
  rw [hhs] at jj3
  clear hw2 hz2 hm2 hs2 hzb j3 j5 hO hnr hhs HTX1 HM1 hjl hjb
  cases hs with
  | true =>
    have HE := Lib.hid (HBAD.out (fun h => by have h1 := h.1; rw [HHS.out] at h1; cases h1) w2 HM2.out)
    clear jj5
    go_wp2_with fail
    exact HE.out
  | false =>
    go_wp2_with fail
    go_loopw [5] (fun v5 wr => ∃ (i : Nat) (p : Option Addr) (c : Nat), i ≤ nr ∧ v5 = .int .i64 i ∧ Hid (∀ r ∈ O.recs.take i, r ≠ []) ∧ Hid (wr.heap[zb]? = some (.cells #[.pointer (some ⟨jb, 0, none⟩), .slice p i c] 61 (0, 0))) ∧ Hid (IsEnts (fun k => zb < k) wr (.slice p i c) i ((O.recs.take i).map enOf)) ∧ Hid (Mod (fun k => zb ≤ k) w2 wr)) (fun v _ => nr - (intOf v).toNat)
    case atStart => exact ⟨0, none, 0, by omega, rfl, Lib.hid (by simp), HZ2, Lib.hid (IsEnts.nil _ _), Lib.hid (Mod.refl _ _)⟩
    case round =>
      clear jj3 jj5 y0
      obtain ⟨i, p, c, hi, rfl, HNE, HZR, HEN, HMR⟩ := hrel
      have HMW : Hid (Mod nil w wr) := Lib.hid (HM2.out.new HMR.out (fun k h => Nat.le_trans hwz h))
      have y0 := cell_of HZR.out 0
      have y1 := cell_of HZR.out 1
      simp only [List.getElem?_toArray, List.getElem?_cons_zero, List.getElem?_cons_succ] at y0 y1
      have jj5 := cell_kept HJ5.out HMR.out (by have := HS2.out; omega) (fun h => by omega)
      have HTXR : Hid (IsTextsC (fun k => k < zb) wr (.slice pr nr cr) nr O.recs) := Lib.hid (HTX2.out.mod HMR.out (fun k _ hk h => by omega))
      by_cases hlt : i < nr
      · obtain ⟨gt, x, rfl, hgt, hx, hrow, hcap⟩ := HTXR.out.at i hlt
        have HTK : Hid (O.recs.take (i + 1) = O.recs.take i ++ [O.recs.getD i []]) := Lib.hid (by rw [List.take_succ_eq_append_getElem (by rw [HNR.out]; exact hlt), List.getD_eq_getElem?_getD, List.getElem?_eq_getElem (by rw [HNR.out]; exact hlt)]; rfl)
        have hmem : O.recs.getD i [] ∈ O.recs := by rw [List.getD_eq_getElem?_getD, List.getElem?_eq_getElem (by rw [HNR.out]; exact hlt)]; exact List.getElem_mem _
        have hrlen := HRL.out _ hmem
        obtain ⟨r, hr⟩ : ∃ r, O.recs.getD i [] = r := ⟨_, rfl⟩
        rw [hr] at hrow HTK hmem hrlen
        obtain ⟨px, cx, rfl, -⟩ := id hrow
        rw [bys_length] at hx hrow hcap
        obtain ⟨hcx, hcm⟩ := hcap _ _ _ rfl
        have HMEM := Lib.hid hmem
        cases r with
        | nil =>
          have HE := Lib.hid (HBAD.out (fun h => h.2 _ HMEM.out rfl) wr HMW.out)
          simp only [List.length_nil] at hx
          clear hrow hcap hmem hrlen hr hcx
          go_wp2_with fail
          exact HE.out
        | cons a t =>
          have HROW := Lib.hid hrow
          obtain ⟨m, hm⟩ : ∃ m, t.length = m := ⟨_, rfl⟩
          have HMT := Lib.hid hm
          rw [List.length_cons, hm] at hx HROW hcx hrlen
          obtain ⟨M, hM⟩ : ∃ M, m + 1 = M := ⟨_, rfl⟩
          rw [hM] at hx HROW hcx hrlen
          have HMM := Lib.hid hM
          obtain ⟨gr, or_, rfl, hgr, hgrl⟩ := row_some HROW.out (by omega)
          have hb0 : wr.cell? ⟨gr, or_, none⟩ = some (.int .u8 a.toNat) := by
            obtain ⟨_, _, e, hc⟩ := HROW.out
            simp only [Value.slice.injEq] at e
            obtain ⟨rfl, -, -⟩ := e
            obtain ⟨b', o', e1, -, -, h4⟩ := hc 0 (by simp [bys])
            simp only [Option.some.injEq, Addr.mk.injEq, and_true] at e1
            obtain ⟨rfl, rfl⟩ := e1
            simpa [bys] using h4
          have hM1 : 0 < M := by omega
          have hnz : ((M : Int) == 0) = false := by simp; omega
          obtain ⟨p2, hsl0, hrowsl⟩ := slice_from _ (some ⟨gr, or_, none⟩) M cx 1 (a :: t) wr HROW.out (by omega) hcx
          rw [show M - 1 = m by omega] at hsl0 hrowsl
          have hsl : ∀ W, (Instr.slice 40 (.slice (some ⟨gr, or_, none⟩) M cx) (some (.int .i64 1)) none none).run Tryz.prog W = .ok (.slice p2 m (cx - 1)) W := fun W => hsl0 W
          clear hsl0 hM
          have ha255 : a.toNat ≤ 255 := by have := a.toNat_lt; omega
          have hconv : IntKind.i64.wrap ((a.toNat : Nat) : Int) = ((a.toNat : Nat) : Int) := by rw [IntKind.wrap_i64]; omega
          have HRT : Hid (∀ W, Mod nil wr W → IsRow (fun k => k < zb) W (.slice p2 m (cx - 1)) (bys t)) := Lib.hid (fun W mm => by
            have := hrowsl W (HROW.out.modNil mm)
            simpa using this)
          have HZO : Hid (¬ (Value.slice p i c).ownBlock = some zb) := Lib.hid (fun ho => by have h : zb < zb := (HEN.out.own ho).1; omega)
          have HGO : Hid (¬ (Value.slice p i c).ownBlock = some gr) := Lib.hid (fun ho => by have h : zb < gr := (HEN.out.own ho).1; have := hgr; omega)
          have HMS : Hid (zb < wr.heap.size) := Lib.hid (heap_lt HZR.out)
          have HCL : Hid (∀ W, Mod nil wr W → Calls Tryz.prog 34 #[.slice p2 m (cx - 1)] W fun e w' => ∃ p c, e = .returned (.slice p m c) ∧ IsVec (fun k => wr.heap.size ≤ k) w' 5 1 (.slice p m c) m (bys t) ∧ Mod nil W w') := Lib.hid (fun W mm => by
            refine (refCopyBytes _ _ t W (HRT.out W mm) (by rw [HMT.out]; have := HMM.out; omega)).mono ?_
            rintro e w' ⟨v, rfl, hv, hmm⟩
            rw [HMT.out] at hv
            obtain ⟨p', c', rfl⟩ := hv.form
            exact ⟨p', c', rfl, hv.mono (fun k _ h => Nat.le_trans mm.size h), hmm⟩)
          have HK : Hid (∀ W, Mod (fun k => (Value.slice p i c).ownBlock = some k) wr W → (fun w' => w'.cell? ⟨zb, 1, none⟩ = some (.slice p i c) ∧ w'.cell? ⟨gr, or_, none⟩ = some (.int .u8 a.toNat)) W) := Lib.hid (fun W mm => ⟨cell_kept y1 mm (heap_lt HZR.out) HZO.out, cell_kept hb0 mm hgrl HGO.out⟩)
          clear hrow hmem hr hm hrowsl hb0 hcap y1
          go_upto_region 10 with (fail)
          refine region_till (fun w' => w'.cell? ⟨zb, 1, none⟩ = some (.slice p i c) ∧ w'.cell? ⟨gr, or_, none⟩ = some (.int .u8 a.toNat)) 17 (by kernel_rfl) ?_
          refine sF 0 (fun _ => HK.out _ mD) ?_
          refine sF 1 (fun _ => HK.out _ mD) ?_
          refine sF 2 (fun _ => HK.out _ mD) ?_
          refine sF 3 (fun _ => HK.out _ mD) ?_
          refine sT 4 (HK.out _ mD) ?_
          refine sF 5 (fun _ => HK.out _ mD) ?_
          refine sF 6 (fun _ => HK.out _ mD) ?_
          refine sT 7 (HK.out _ mD) ?_
          refine sF 8 (fun _ => HK.out _ mD) ?_
          refine sF 9 (fun _ => HK.out _ mD) ?_
          refine sF 10 (fun _ => HK.out _ mD) ?_
          refine rT 11 (fun K hK => ?_)
          go_simp
          refine (HCL.out _ ?_).mono ?_
          · exact mD
          rintro e w3 ⟨p3, c3, rfl, hv3, hm3⟩
          have hm3' : Mod (fun k => (Value.slice p i c).ownBlock = some k) wr w3 := (show Mod (fun k => (Value.slice p i c).ownBlock = some k) wr _ from mD).thenNil hm3
          have hm3n : Mod nil wr w3 := (show Mod nil wr _ from mD).thenNil hm3
          obtain ⟨v8, w8, hrun8, hv8, hm8, ho8⟩ := ents_append (R := fun k => wr.heap.size ≤ k) (w := w3) (e := ⟨(a.toNat : Nat), t⟩) 59 (HEN.out.modNil hm3n) hv3.row (fun k hk => ⟨by have := HMS.out; have : wr.heap.size ≤ k := hk; omega, fun ho => by have := (HEN.out.own ho).2; have : wr.heap.size ≤ k := hk; omega⟩) rfl (by omega)
          obtain ⟨p8, c8, rfl⟩ := hv8.form
          have hm8' : Mod (fun k => (Value.slice p i c).ownBlock = some k) wr w8 := hm3'.trans hm8 (fun _ _ h => h)
          have hb8 := (hm8'.block zb (heap_lt HZR.out) HZO.out).trans HZR.out
          have z8 := free_of hb8 1
          have f8 := (HK.out w8 hm8').1
          have HV8 := Lib.hid hv8
          have HM8 := Lib.hid hm8'
          have HB8 := Lib.hid hb8
          clear hv8 hb8 ho8 hv3
          refine hK.out _ _ (fun _ => HK.out _ mD) ?_
          clear hK K
          (try simp only [Act.put, pT])
          refine sF 12 (fun _ => HK.out _ mD) ?_
          refine rT 13 (fun K hK => ?_)
          go_simp
          refine hK.out _ _ (fun _ => HK.out _ mD) ?_
          clear hK K
          (try simp only [Act.put, pT])
          refine rT 14 (fun K hK => ?_)
          refine step_append_run rfl _ _ _ _ rfl rfl rfl hrun8 ?_
          refine hK.out _ _ (fun _ => HK.out _ mD) ?_
          clear hK K
          (try simp only [Act.put, pT])
          refine sF 15 (fun _ => HK.out _ mD) ?_
          refine sF 16 (fun _ => HK.out _ mD) ?_
          refine rT 17 (fun K hK => ?_)
          go_simp
          refine hK.out _ _ (fun h => (by simp at h)) ?_
          clear hK K
          (try simp only [Act.put, pT])
          refine till_done (by kernel_rfl) ?_ _
          have g1 := heap_setCell_same HB8.out (.slice p8 (i + 1) c8) (off := 1)
          simp only [List.setIfInBounds_toArray, List.set_cons_succ, List.set_cons_zero] at g1
          have hm9 : Mod (· = zb) w8 (w8.setCell ⟨zb, 1, none⟩ (.slice p8 (i + 1) c8)) := (Mod.refl _ _).setCell _ _ (fun _ => rfl)
          generalize World.setCell w8 _ _ = w9 at g1 hm9 ⊢
          have HZ9 := Lib.hid g1
          have HE1 : Hid (∀ r ∈ O.recs.take (i + 1), r ≠ []) := Lib.hid (fun r hr => by
            rw [HTK.out] at hr
            rcases List.mem_append.1 hr with h | h
            · exact HNE.out r h
            · rw [List.mem_singleton.1 h]; exact List.cons_ne_nil _ _)
          have HEN9 : Hid (IsEnts (fun k => zb < k) w9 (.slice p8 (i + 1) c8) (i + 1) ((O.recs.take (i + 1)).map enOf)) := Lib.hid (by
            rw [HTK.out, List.map_append]
            exact (HV8.out.mono (T := fun k => zb < k) (fun k _ h => h.elim id (fun h => by have := hm3n.size; have := HMS.out; omega))).mod hm9 (fun k _ hk e => by omega))
          have HM9 : Hid (Mod (fun k => zb ≤ k) w2 w9) := Lib.hid ((HMR.out.trans HM8.out (fun k _ h => by have h' : zb < k := (HEN.out.own h).1; exact Nat.le_of_lt h')).trans hm9 (fun k _ e => Nat.le_of_eq e.symm))
          clear g1 hm9 hm3n
          go_wp2_with fail
          exact ⟨⟨i + 1, p8, c8, by omega, by go_num, HE1, HZ9, HEN9, HM9⟩, by simp [intOf]; omega⟩
      · obtain rfl : i = nr := by omega
        have htake : O.recs.take i = O.recs := List.take_of_length_le (by rw [HNR.out]; exact Nat.le_refl _)
        have hne := HNE.out
        have hen := HEN.out
        rw [htake] at hne hen
        have HE := Lib.hid (HPOST.out _ wr (.inl ⟨zb, hwz, ⟨HHS.out, hne⟩, rfl, ⟨jb, i, p, c, _, fun k => zb < k, HZR.out, .inr hwz, (HJ1.out.modNil HM12.out).mod HMR.out (fun k _ hk h => by have := hk.2; have := HZB.out; omega), hen, fun k hk => ⟨hk.1, by have := hk.2; have := HZB.out; omega, fun h => by have := hk.2; have := HZB.out; omega⟩, fun k hk => ⟨.inr (by omega), by omega⟩⟩, HMW.out⟩))
        clear htake hne hen
        go_wp2_with fail
        exact HE.out
end Go.Proofs.YtdfahddpkkeldaaGreat

/- Two diaries side by side: what both are, if they are at all; Open, Add. -/
namespace Go.Proofs.YtdfahddpkkeldaaGreat
open Go.RowKit
def YS.Ok (y : YS) : Prop := y.s.Ok (y.d.lasts.length / 2) ∧ y.l = y.s.recs.map enOf ∧ ∀ r ∈ y.s.recs, r ≠ []
theorem YS.Ok.ents {y : YS} (h : y.Ok) : ∀ e ∈ y.l, 0 ≤ e.k ∧ e.k ≤ 255 ∧ e.b.length ≤ 60000 := by
 intro e he
 rw [h.2.1] at he
 obtain ⟨r, hr, rfl⟩ := List.mem_map.1 he
 have h1 := h.1.2.2 r hr
 have h2 := (r.headD 0).toNat_lt
 refine ⟨by simp [enOf], by simp only [enOf]; omega, ?_⟩
 simp only [enOf, List.length_tail]
 omega
theorem YS.Ok.few {y : YS} (h : y.Ok) : y.l.length ≤ y.d.lasts.length := by
  rw [h.2.1, List.length_map]
  have := h.1.1.2.2.1; have := h.1.1.2.2.2; omega
theorem appends_recs (s : JS) (d : DS) (b : List UInt8) : (s.appends d b).1.recs = if (s.appends d b).2.2 = 0 then s.recs ++ [b] else s.recs := by
 unfold JS.appends
 repeat' split
 all_goals simp_all
theorem YS.add_ok {y : YS} (h : y.Ok) (e : En) : (y.add e).1.Ok := by
 unfold YS.add
 split
 ·exact h
 ·rename_i he
  have h1 := JS.appends_ok (b := recOf e) h.1
  have h2 := appends_recs y.s y.d (recOf e)
  have hk : 0 ≤ e.k ∧ e.k ≤ 255 := by
   unfold entErr at he
   split at he
   ·simp at he
   ·omega
  split
  ·rename_i h0
   rw [if_pos h0] at h2
   refine ⟨h1, ?_, fun r hr => ?_⟩
   ·simp only; rw [h2, List.map_append, ← h.2.1]; simp [enOf_rec e hk.1 hk.2]
   ·simp only at hr
    rw [h2] at hr
    rcases List.mem_append.1 hr with h3 | h3
    ·exact h.2.2 r h3
    ·rw [List.mem_singleton.1 h3]; exact List.cons_ne_nil _ _
  ·rename_i h0
   rw [if_neg h0] at h2
   exact ⟨h1, by simp only; rw [h2]; exact h.2.1, fun r hr => h.2.2 r (by simp only at hr; rwa [h2] at hr)⟩
theorem YS.add_len (y : YS) (e : En) : (y.add e).1.d.lasts.length = y.d.lasts.length := by
 have h : ∀ b, (y.s.appends y.d b).2.1.lasts.length = y.d.lasts.length := fun b => by
  unfold JS.appends
  repeat' split
  all_goals first | rfl | exact DS.lays_len _ _ _ _
 unfold YS.add
 repeat' split
 all_goals first | rfl | exact h _
/-- what a disk tells: is it a diary's? -/
def DS.GoodY (d : DS) : Prop := d.opens.has = false ∧ ∀ r ∈ d.opens.recs, r ≠ []
theorem IsDT.okOpens {P : Nat → Prop} {w : World} {tb db bl bm : Nat} {d : DS} (h : IsDT P w tb db bl bm d) : d.opens.Ok (d.lasts.length / 2) := by
 obtain ⟨ht, C, j2, j4⟩ := h
 exact DS.opens_ok d (fun hd hf hh => isDisk_half j2 hd hf hh)
/-- both diaries' blocks, the journal, the entries; or none -/
abbrev OY := Option (Nat × Nat × JS × List En)
def OY.y : OY → Value
 | none => .pointer none
 | some (yb, _, _, _) => .pointer (some ⟨yb, 0, none⟩)
def OY.z : OY → Value
 | none => .pointer none
 | some (_, zb, _, _) => .pointer (some ⟨zb, 0, none⟩)
def OY.e : OY → Value
 | none => .int .i64 2
 | some _ => .int .i64 0
theorem OY.none_y : OY.y none = .pointer none := rfl
theorem OY.none_z : OY.z none = .pointer none := rfl
theorem OY.none_e : OY.e none = .int .i64 2 := rfl
theorem OY.some_y (yb zb : Nat) (s : JS) (l : List En) : OY.y (some (yb, zb, s, l)) = .pointer (some ⟨yb, 0, Option.none⟩) := rfl
theorem OY.some_z (yb zb : Nat) (s : JS) (l : List En) : OY.z (some (yb, zb, s, l)) = .pointer (some ⟨zb, 0, Option.none⟩) := rfl
theorem OY.some_e (yb zb : Nat) (s : JS) (l : List En) : OY.e (some (yb, zb, s, l)) = .int .i64 0 := rfl
def OY.Ok (o : OY) (d : DS) : Prop := ∀ yb zb s l, o = some (yb, zb, s, l) → YS.Ok ⟨s, d, l⟩
def LA (tb db bl bm : Nat) (o : OY) (d : DS) : (Nat → Prop) → World → Prop :=
 match o with
 | none => DA tb db bl bm d
 | some (yb, _, s, l) => YA tb db bl bm yb ⟨s, d, l⟩
def RB (xb : Nat) (o : OY) (d : DS) : (Nat → Prop) → World → Prop :=
 match o with
 | none => DB xb d
 | some (_, zb, s, l) => YB xb zb ⟨s, d, l⟩
theorem LA.keeps (tb db bl bm : Nat) (o : OY) (d : DS) : Keeps tb (LA tb db bl bm o d) := by
 cases o with
 | none => exact DA.keeps _ _ _ _ _
 | some q => exact YA.keeps _ _ _ _ _ _
theorem RB.keeps (xb : Nat) (o : OY) (d : DS) : KeepsR (RB xb o d) := by
 cases o with
 | none => exact DB.keeps _ _
 | some q => exact YB.keeps _ _ _
section
variable {G T : Nat → Prop} {w : World} {tb db bl bm xb yb zb : Nat} {A B : (Nat → Prop) → World → Prop} {y : YS} {d D : DS} {o : OY}
theorem LA.disk {P : Nat → Prop} (h : LA tb db bl bm o d P w) : DA tb db bl bm d P w := by
 cases o with
 | none => exact h
 | some q => exact IsY.dt h
theorem RB.disk {P : Nat → Prop} (h : RB xb o d P w) : DB xb d P w := by
 cases o with
 | none => exact h
 | some q => exact IsRY.rd h
theorem lFuse (kb : KeepsR B) (h : PairG (LA tb db bl bm o d) B tb G w) (n : Int) (hn : n ≤ 9223372036854775807) :
  Calls Tryz.prog 15 #[.pointer (some ⟨db, 0, none⟩), .int .i64 n] w fun e w' => e = .returned (.tuple #[]) ∧ PairG (LA tb db bl bm o { d with fuse := max n (-1) }) B tb (fun k => G k ∨ w.heap.size ≤ k) w' ∧ Mod G w w' := by
 cases o with
 | none => exact pdFuse kb h n hn
 | some q => exact pyFuse kb h n hn
theorem lWrite (kb : KeepsR B) (h : PairG (LA tb db bl bm o d) B tb G w) (i : Int) (v : Value) (l : List UInt8) (hv : IsRow T w v (bys l)) (hT : ∀ k, T k → ¬ G k ∧ k < w.heap.size) (hl : l.length ≤ 9223372036854775807) :
  Calls Tryz.prog 17 #[.pointer (some ⟨db, 0, none⟩), .int .i64 i, v] w fun e w' => e = .returned (.int .i64 (d.write i l).2) ∧ PairG (LA tb db bl bm o (d.write i l).1) B tb (fun k => G k ∨ w.heap.size ≤ k) w' ∧ Mod G w w' := by
 cases o with
 | none => exact pdWrite kb h i v l hv hT hl
 | some q => exact pyWrite kb h i v l hv hT hl
theorem rFuse (ka : Keeps tb A) (h : PairG A (RB xb o d) tb G w) (n : Int) (hn : n ≤ 9223372036854775807) :
  Calls Tryz.prog 16 #[.pointer (some ⟨xb, 0, none⟩), .int .i64 n] w fun e w' => e = .returned (.tuple #[]) ∧ PairG A (RB xb o { d with fuse := max n (-1) }) tb (fun k => G k ∨ w.heap.size ≤ k) w' ∧ Mod G w w' := by
 cases o with
 | none => exact rdFuse ka h n hn
 | some q => exact pxFuse ka h n hn
theorem rWrite (ka : Keeps tb A) (h : PairG A (RB xb o d) tb G w) (i : Int) (v : Value) (l : List UInt8) (hv : IsRow T w v (bys l)) (hT : ∀ k, T k → ¬ G k ∧ k < w.heap.size) (hl : l.length ≤ 9223372036854775807) :
  Calls Tryz.prog 19 #[.pointer (some ⟨xb, 0, none⟩), .int .i64 i, v] w fun e w' => e = .returned (.int .i64 (d.write i l).2) ∧ PairG A (RB xb o (d.write i l).1) tb (fun k => G k ∨ w.heap.size ≤ k) w' ∧ Mod G w w' := by
 cases o with
 | none => exact rdWrite ka h i v l hv hT hl
 | some q => exact pxWrite ka h i v l hv hT hl
/-- what the program's Open has told -/
def Half (tb db bl bm xb : Nat) (d : DS) (v1 v2 : Value) (G : Nat → Prop) (w : World) : Prop :=
 (d.GoodY ∧ ∃ yb, v1 = .pointer (some ⟨yb, 0, none⟩) ∧ v2 = .int .i64 0 ∧ PairG (YA tb db bl bm yb ⟨d.opens, d, d.opens.recs.map enOf⟩) (DB xb d) tb G w) ∨
 (¬ d.GoodY ∧ v1 = .pointer none ∧ v2 = .int .i64 2 ∧ PairG (DA tb db bl bm d) (DB xb d) tb G w)
theorem pyOpen (h : PairG (DA tb db bl bm d) (DB xb d) tb G w) (hn : d.lasts.length ≤ 8192) :
  Calls Tryz.prog 9 #[.pointer (some ⟨tb, 0, none⟩), .pointer (some ⟨db, 0, none⟩)] w fun e w' => ∃ v1 v2, e = .returned (.tuple #[v1, v2]) ∧ Half tb db bl bm xb d v1 v2 (fun k => G k ∨ w.heap.size ≤ k) w' ∧ Mod G w w' := by
 obtain ⟨P, R, p1, p2, p3, p4, p5⟩ := h
 have hok := IsDT.okOpens p1
 refine (diaryOpen P tb db bl bm d w p1 hok.2.2 hok.2.1 (by have := hok.1.2.2.1; have := hok.1.2.2.2; omega)).mono ?_
 rintro e w' (⟨yb, -, hg, rfl, hy, m⟩ | ⟨hg, rfl, hd, m⟩)
 ·have q := PairG.left (YA.keeps tb db bl bm yb ⟨d.opens, d, d.opens.recs.map enOf⟩) (DB.keeps xb d) p2 p3 p4 p5 hy m (fun k hk e => .inr e)
  exact ⟨_, _, rfl, .inl ⟨hg, yb, rfl, rfl, q.1⟩, q.2⟩
 ·have q := PairG.left (DA.keeps tb db bl bm d) (DB.keeps xb d) p2 p3 p4 p5 (IsDT.mono' hd (fun k _ h => .inl h)) m (fun k hk e => .inr e)
  exact ⟨_, _, rfl, .inr ⟨hg, rfl, rfl, q.1⟩, q.2⟩
theorem Half.mono {v1 v2 : Value} {H : Nat → Prop} (h : Half tb db bl bm xb d v1 v2 G w) (hg : ∀ k, k < w.heap.size → G k → H k) : Half tb db bl bm xb d v1 v2 H w := by
 rcases h with ⟨hg', yb, h1, h2, h⟩ | ⟨hg', h1, h2, h⟩
 ·exact .inl ⟨hg', yb, h1, h2, h.mono hg⟩
 ·exact .inr ⟨hg', h1, h2, h.mono hg⟩
theorem lrNil {o1 o2 : OY} {d1 d2 : DS} {w' : World} (h : PairG (LA tb db bl bm o1 d1) (RB xb o2 d2) tb G w) (m : Mod nil w w') : PairG (LA tb db bl bm o1 d1) (RB xb o2 d2) tb G w' := h.modNil (LA.keeps ..) (RB.keeps ..) m
theorem read64_of (h : PairG A B tb G w) (hA : ∀ P, A P w → DA tb db bl bm d P w) : (∀ i, (d.read i).1.length ≤ 64) ∧ (d.down = false → ∀ i : Nat, i < d.lasts.length → (d.read (i : Int)).1.length = 64) ∧ d.opens.Ok (d.lasts.length / 2) := by
 obtain ⟨P, R, p1, -⟩ := h
 have q := hA P p1
 have hok := IsDT.okOpens q
 obtain ⟨ht, C, j2, j4⟩ := q
 exact ⟨disk_read64 j2, fun hd i hi => read_64 w db bl bm C d j2 i hd hi, hok⟩
theorem pxOpen {v1 v2 : Value} (h : Half tb db bl bm xb d v1 v2 G w) (hn : d.lasts.length ≤ 8192) :
  Calls Tryz.prog 10 #[.pointer (some ⟨xb, 0, none⟩)] w fun e w' => ∃ (o : OY), v1 = o.y ∧ v2 = o.e ∧ e = .returned (.tuple #[o.z, o.e]) ∧ o.Ok d ∧ PairG (LA tb db bl bm o d) (RB xb o d) tb (fun k => G k ∨ w.heap.size ≤ k) w' ∧ Mod G w w' := by
 rcases h with ⟨hg, yb, rfl, rfl, h⟩ | ⟨hg, rfl, rfl, h⟩
 ·obtain ⟨h1, h2, hok⟩ := read64_of (d := d) (db := db) (bl := bl) (bm := bm) h (fun P h => IsY.dt h)
  obtain ⟨P, R, p1, p2, p3, p4, p5⟩ := h
  refine (refDiaryOpen R xb d w p2 h1 h2 hok.2.2 (by have := hok.1.2.2.1; have := hok.1.2.2.2; omega)).mono ?_
  rintro e w' (⟨zb, -, -, rfl, hy, m⟩ | ⟨hb, -⟩)
  ·have q := PairG.right (YA.keeps tb db bl bm yb ⟨d.opens, d, d.opens.recs.map enOf⟩) (YB.keeps xb zb ⟨d.opens, d, d.opens.recs.map enOf⟩) p1 p3 p4 p5 hy m (fun k hk e => e.elim)
   refine ⟨some (yb, zb, d.opens, d.opens.recs.map enOf), rfl, rfl, rfl, ?_, q.1, q.2⟩
   intro yb' zb' s l he
   simp only [Option.some.injEq, Prod.mk.injEq] at he
   obtain ⟨-, -, rfl, rfl⟩ := he
   exact ⟨hok, rfl, hg.2⟩
  ·exact absurd hg hb
 ·obtain ⟨h1, h2, hok⟩ := read64_of (d := d) (db := db) (bl := bl) (bm := bm) h (fun P h => h)
  obtain ⟨P, R, p1, p2, p3, p4, p5⟩ := h
  refine (refDiaryOpen R xb d w p2 h1 h2 hok.2.2 (by have := hok.1.2.2.1; have := hok.1.2.2.2; omega)).mono ?_
  rintro e w' (⟨zb, -, hb, -⟩ | ⟨-, rfl, m⟩)
  ·exact absurd hb hg
  ·have q := PairG.right (DA.keeps tb db bl bm d) (DB.keeps xb d) p1 p3 p4 p5 (IsRD.mono (IsRD.mod p2 m (fun _ _ _ f => f)) (fun k _ h => .inl h)) m (fun k hk e => e.elim)
   exact ⟨none, rfl, rfl, rfl, fun _ _ _ _ he => by simp at he, q.1, q.2⟩
theorem pyAdd (kb : KeepsR B) (h : PairG (YA tb db bl bm yb y) B tb G w) (hok : y.Ok) (hn : y.d.lasts.length ≤ 8192) (k : Int) (p : Option Addr) (nb c : Nat) (body : List UInt8) (hrow : IsRow T w (.slice p nb c) (bys body)) (hT : ∀ j, T j → ¬ G j ∧ j < w.heap.size) (hm : nb ≤ maxLen) :
  Calls Tryz.prog 11 #[.pointer (some ⟨yb, 0, none⟩), .agg #[.int .i64 k, .slice p nb c]] w fun e w' => e = .returned (.int .i64 (y.add ⟨k, body⟩).2) ∧ PairG (YA tb db bl bm yb (y.add ⟨k, body⟩).1) B tb (fun k => G k ∨ w.heap.size ≤ k) w' ∧ Mod G w w' := by
 have hbl : body.length = nb := by
  obtain ⟨_, _, h, _⟩ := hrow
  simp only [Value.slice.injEq, bys_length] at h
  exact h.2.1.symm
 by_cases he : entErr k nb = 0
 ·have hk : 0 ≤ k ∧ k ≤ 255 ∧ nb ≤ 60000 := by
   unfold entErr at he
   split at he
   ·simp at he
   ·split at he
    ·simp at he
    ·omega
  obtain ⟨kk, rfl⟩ := Int.eq_ofNat_of_zero_le hk.1
  obtain ⟨P, R, p1, p2, p3, p4, p5⟩ := h
  refine (diaryAdd P T yb tb db bl bm nb c kk y body p w p1 hok.1.1 hrow (fun j hj => ⟨(hT j hj).2, fun hp => (hT j hj).1 (p3 j hp).1, fun e => (hT j hj).1 (by rw [e]; exact p5.1)⟩) (by omega) hk.2.2 (by have := hok.few; omega)).mono ?_
  rintro e w' ⟨rfl, hy, m⟩
  exact ⟨rfl, PairG.left (YA.keeps _ _ _ _ _ _) kb p2 p3 p4 p5 hy m (fun _ _ h => h)⟩
 ·have hadd : y.add ⟨k, body⟩ = (y, entErr k nb) := by unfold YS.add; simp only [hbl]; rw [if_pos he]
  rw [hadd]
  obtain ⟨P, R, p1, p2, p3, p4, p5⟩ := id h
  refine (diaryAdd_bad P T yb tb db bl bm nb c k y p w p1 hm he).mono ?_
  rintro e w' ⟨rfl, m⟩
  exact ⟨rfl, (h.modNil (YA.keeps _ _ _ _ _ _) kb m).mono (fun _ _ h => .inl h), m.ofNil⟩
theorem pxAdd (ka : Keeps tb A) (h : PairG A (YB xb zb y) tb G w) (hok : y.Ok) (hn : y.d.lasts.length ≤ 8192) (k : Int) (p : Option Addr) (nb c : Nat) (body : List UInt8) (hrow : IsRow T w (.slice p nb c) (bys body)) (hT : ∀ j, T j → ¬ G j ∧ j < w.heap.size) :
  Calls Tryz.prog 12 #[.pointer (some ⟨zb, 0, none⟩), .agg #[.int .i64 k, .slice p nb c]] w fun e w' => e = .returned (.int .i64 (y.add ⟨k, body⟩).2) ∧ PairG A (YB xb zb (y.add ⟨k, body⟩).1) tb (fun k => G k ∨ w.heap.size ≤ k) w' ∧ Mod G w w' := by
 have hbl : body.length = nb := by
  obtain ⟨_, _, h, _⟩ := hrow
  simp only [Value.slice.injEq, bys_length] at h
  exact h.2.1.symm
 by_cases he : entErr k nb = 0
 ·have hk : 0 ≤ k ∧ k ≤ 255 ∧ nb ≤ 60000 := by
   unfold entErr at he
   split at he
   ·simp at he
   ·split at he
    ·simp at he
    ·omega
  obtain ⟨kk, rfl⟩ := Int.eq_ofNat_of_zero_le hk.1
  obtain ⟨P, R, p1, p2, p3, p4, p5⟩ := h
  refine (refDiaryAdd R T zb xb nb c kk y body p w p2 hok.1.1 hrow (fun j hj => ⟨(hT j hj).2, fun hp => (hT j hj).1 (p4 j hp).1⟩) (by omega) hk.2.2 (by have := hok.few; omega)).mono ?_
  rintro e w' ⟨rfl, hy, m⟩
  exact ⟨rfl, PairG.right ka (YB.keeps _ _ _) p1 p3 p4 p5 hy m (fun _ _ h => h)⟩
 ·have hadd : y.add ⟨k, body⟩ = (y, entErr k nb) := by unfold YS.add; simp only [hbl]; rw [if_pos he]
  rw [hadd]
  refine (refDiaryAdd_bad zb nb c k p w he).mono ?_
  rintro e w' ⟨rfl, m⟩
  exact ⟨rfl, (h.modNil ka (YB.keeps _ _ _) m).mono (fun _ _ h => .inl h), m.ofNil⟩
/-- the bundle; the program's log and the reference's entries, side by side -/
theorem IsY.modTab {F : Nat → Prop} {w w' : World} (h : IsY F w yb tb db bl bm y) (ht : IsTab w' tb) (m : Mod (· = tb) w w') : IsY F w' yb tb db bl bm y := by
 obtain ⟨gb, jb, J, L, h1, h2, h3, h4, h5, h6, h7⟩ := h.ex
 obtain ⟨S, C, j1, j2, j3, j4⟩ := h4.ex
 exact ⟨gb, jb, J, L, (m.block yb (heap_lt h1) h3).trans h1, h2, h3, ⟨ht, S, C, j1.mod m (fun k _ hk e => (j4 k (.inl hk)).2.1 e), j2.mod m (fun k _ hk e => (j4 k (.inr hk)).2.1 e), j3, fun k hk => ⟨(j4 k hk).1, (j4 k hk).2.1, Nat.lt_of_lt_of_le (j4 k hk).2.2 m.size⟩⟩, h5.mod m (fun k _ hk e => (h7 k hk).2.1 e), h6, h7⟩
theorem pyLog (h : PairG (YA tb db bl bm yb y) B tb G w) : ∃ gb L, w.cell? ⟨yb, 0, none⟩ = some (.pointer (some ⟨gb, 0, none⟩)) ∧ yb < w.heap.size ∧ IsLog L w gb tb y.l := by
 obtain ⟨P, R, p1, -⟩ := h
 obtain ⟨gb, L, h1, h2, h3, -⟩ := IsY.log p1
 exact ⟨gb, L, h1, h2, h3⟩
theorem pyBundle (kb : KeepsR B) (h : PairG (YA tb db bl bm yb y) B tb G w) (hok : y.Ok) (hn : y.d.lasts.length ≤ 8192) : ∃ gb, w.cell? ⟨yb, 0, none⟩ = some (.pointer (some ⟨gb, 0, none⟩)) ∧
  Calls Tryz.prog 20 #[.pointer (some ⟨gb, 0, none⟩)] w fun e w' => ∃ p c, e = .returned (.tuple #[.slice p (exportF y.l).length c, .int .i64 0]) ∧ IsVec (fun k => w.heap.size ≤ k) w' 5 1 (.slice p (exportF y.l).length c) (exportF y.l).length (bys (exportF y.l)) ∧ PairG (YA tb db bl bm yb y) B tb (fun k => G k ∨ w.heap.size ≤ k) w' ∧ Mod G w w' := by
 obtain ⟨P, R, p1, p2, p3, p4, p5⟩ := h
 obtain ⟨gb, jb, J, L, h1, h2, h3, h4, h5, h6, h7⟩ := IsY.ex p1
 have y0 := cell_of h1 0
 simp only [List.getElem?_toArray, List.getElem?_cons_zero] at y0
 refine ⟨gb, y0, (logBundle L gb tb y.l w h5 h4.tab (fun k hk => (h7 k hk).2.1) hok.ents (by have := hok.few; omega)).mono ?_⟩
 rintro e w' ⟨p, c, rfl, hv, ht, m⟩
 have q := PairG.left (YA.keeps _ _ _ _ _ _) kb p2 p3 p4 p5 (IsY.mono (IsY.modTab p1 ht m) (fun k _ h => .inl h)) m (fun k hk e => .inr e)
 exact ⟨p, c, rfl, hv, q⟩
theorem pxEnts (h : PairG A (YB xb zb y) tb G w) : ∃ p n c S, w.cell? ⟨zb, 1, none⟩ = some (.slice p n c) ∧ zb < w.heap.size ∧ n = y.l.length ∧ IsEns S w (.slice p n c) y.l := by
 obtain ⟨P, R, -, p2, -⟩ := h
 obtain ⟨jb, n, p, c, J, E, h1, h2, h3, h4, h5, h6⟩ := IsRY.ex p2
 have z1 := cell_of h1 1
 simp only [List.getElem?_toArray, List.getElem?_cons_zero, List.getElem?_cons_succ] at z1
 exact ⟨p, n, c, E, z1, heap_lt h1, h4.1.symm, h4.read⟩
end
end Go.Proofs.YtdfahddpkkeldaaGreat

/- Package diary: a diary over its disk; Add. (Printed by wip/tools/gen_diary.py.) -/
import Derived.Test.YtdfahddpkkeldaaGreatShort
import Derived.Test.YtdfahddpkkeldaaGreatExport
import Derived.Test.YtdfahddpkkeldaaGreatJLaw
import Derived.Test.YtdfahddpkkeldaaGreatRefLists
set_option linter.unusedSimpArgs false
set_option linter.unusedVariables false
namespace Go.Proofs.YtdfahddpkkeldaaGreat
open Go.RowKit
/-- a diary, said plainly: its journal, the disk, the entries -/
structure YS where
 s : JS
 d : DS
 l : List En
/-- an entry as a record -/
def recOf (e : En) : List UInt8 := UInt8.ofNat e.k.toNat :: e.b
def YS.add (y : YS) (e : En) : YS × Int :=
 if entErr e.k e.b.length ≠ 0 then (y, entErr e.k e.b.length) else
 if (y.s.appends y.d (recOf e)).2.2 = 0 then (⟨(y.s.appends y.d (recOf e)).1, (y.s.appends y.d (recOf e)).2.1, y.l ++ [e]⟩, 0) else
 (⟨(y.s.appends y.d (recOf e)).1, (y.s.appends y.d (recOf e)).2.1, y.l⟩, (y.s.appends y.d (recOf e)).2.2)
/-- a diary at block yb, by the table tb, over the disk db: all of its blocks (and the disk's) are in F -/
structure IsY (F : Nat → Prop) (w : World) (yb tb db bl bm : Nat) (y : YS) : Prop where
 ex : ∃ (gb jb : Nat) (J L : Nat → Prop), w.heap[yb]? = some (.cells #[.pointer (some ⟨gb, 0, none⟩), .pointer (some ⟨jb, 0, none⟩)] 56 (0, 0)) ∧ F yb ∧ ¬ yb = tb ∧
  IsJD J w jb tb db bl bm y.s y.d ∧ IsLog L w gb tb y.l ∧ (∀ k, J k → F k ∧ k ≠ tb ∧ ¬ k = yb ∧ ¬ L k) ∧ ∀ k, L k → F k ∧ ¬ k = tb ∧ ¬ k = yb
theorem IsJD.exact {F : Nat → Prop} {w : World} {jb tb db bl bm : Nat} {s : JS} {d : DS} (h : IsJD F w jb tb db bl bm s d) : IsJD (fun k => F k ∧ k ≠ tb ∧ k < w.heap.size) w jb tb db bl bm s d := by
 obtain ⟨S, C, h1, h2, h3, h4⟩ := h.ex
 exact ⟨h.tab, S, C, h1, h2, h3, fun k hk => ⟨h4 k hk, (h4 k hk).2⟩⟩
theorem IsY.mod {F T : Nat → Prop} {w w' : World} {yb tb db bl bm : Nat} {y : YS} (h : IsY F w yb tb db bl bm y) (m : Mod T w w') (hs : ∀ k, k < w.heap.size → (F k ∨ k = tb) → ¬ T k) : IsY F w' yb tb db bl bm y := by
 obtain ⟨gb, jb, J, L, h1, h2, h3, h4, h5, h6, h7⟩ := h.ex
 exact ⟨gb, jb, J, L, (m.block yb (heap_lt h1) (hs yb (heap_lt h1) (.inl h2))).trans h1, h2, h3, h4.mod m (fun k hk h => hs k hk (h.imp (fun h => (h6 k h).1) id)), h5.mod m (fun k hk h => hs k hk (.inl (h7 k h).1)), h6, h7⟩
theorem IsY.modNil {F : Nat → Prop} {w w' : World} {yb tb db bl bm : Nat} {y : YS} (h : IsY F w yb tb db bl bm y) (m : Mod nil w w') : IsY F w' yb tb db bl bm y := h.mod m (fun _ _ _ f => f)
theorem IsY.mono {F G : Nat → Prop} {w : World} {yb tb db bl bm : Nat} {y : YS} (h : IsY F w yb tb db bl bm y) (hs : ∀ k, k < w.heap.size → F k → G k) : IsY G w yb tb db bl bm y := by
 obtain ⟨gb, jb, J, L, h1, h2, h3, h4, h5, h6, h7⟩ := h.ex
 exact ⟨gb, jb, fun k => J k ∧ k < w.heap.size, fun k => L k ∧ k < w.heap.size, h1, hs yb (heap_lt h1) h2, h3, h4.mono (fun k hk h => ⟨h, hk⟩), h5.mono (fun k hk h => ⟨h, hk⟩), fun k hk => ⟨hs k hk.2 (h6 k hk.1).1, (h6 k hk.1).2.1, (h6 k hk.1).2.2.1, fun h => (h6 k hk.1).2.2.2 h.1⟩, fun k hk => ⟨hs k hk.2 (h7 k hk.1).1, (h7 k hk.1).2⟩⟩
theorem IsY.tab {F : Nat → Prop} {w : World} {yb tb db bl bm : Nat} {y : YS} (h : IsY F w yb tb db bl bm y) : IsTab w tb := by
 obtain ⟨gb, jb, J, L, h1, h2, h3, h4, h5, h6, h7⟩ := h.ex
 exact h4.tab
theorem IsY.dt {F : Nat → Prop} {w : World} {yb tb db bl bm : Nat} {y : YS} (h : IsY F w yb tb db bl bm y) : IsDT F w tb db bl bm y.d := by
 obtain ⟨gb, jb, J, L, h1, h2, h3, h4, h5, h6, h7⟩ := h.ex
 obtain ⟨ht, C, hc, hk⟩ := h4.dt
 exact ⟨ht, C, hc, fun k h => ⟨(h6 k (hk k h).1).1, (hk k h).2⟩⟩
set_option maxRecDepth 100000 in
set_option maxHeartbeats 4000000 in
theorem diaryAdd_bad (F T : Nat → Prop) (yb tb db bl bm nb c : Nat) (k : Int) (y : YS) (p : Option Addr) (w : World) (hy : IsY F w yb tb db bl bm y) (hn : nb ≤ maxLen) (hbad : entErr k nb ≠ 0) :
  Calls Tryz.prog 11 #[.pointer (some ⟨yb, 0, none⟩), .agg #[.int .i64 k, .slice p nb c]] w fun e w' => e = .returned (.int .i64 (entErr k nb)) ∧ Mod nil w w' := by
 refine (?_ : ∀ Post : Ending → World → Prop, Hid (∀ e w', (e = .returned (.int .i64 (entErr k nb)) ∧ Mod nil w w') → Post e w') → Calls Tryz.prog 11 #[.pointer (some ⟨yb, 0, none⟩), .agg #[.int .i64 k, .slice p nb c]] w Post) _ (Lib.hid (fun _ _ h => h))
 intro Post HPOST
 have HADD : Hid (∀ ch W, True → Calls Tryz.prog 35 #[.pointer (some ⟨ch, 0, none⟩), .agg #[.int .i64 k, .slice p nb c]] W fun e w' => e = .returned (.int .i64 (entErr k nb)) ∧ Mod nil W w') := Lib.hid (fun ch W _ => chainAdd_bad ch k p nb c W hn hbad)
 obtain ⟨r, hr⟩ : ∃ r, entErr k nb = r := ⟨_, rfl⟩
 rw [hr] at HADD HPOST hbad
 have hr0 : (r != 0) = true := by simpa using hbad
 clear hr hn
 obtain ⟨gb, jb, J, L, hy0, hFy, hyt, hjd, hlog, hJ, hL⟩ := hy.ex
 have HY0 := Lib.hid hy0
 have HFY := Lib.hid hFy
 have HYT := Lib.hid hyt
 have HJD0 := Lib.hid hjd
 have HLG0 := Lib.hid hlog
 have HJ := Lib.hid hJ
 have HL := Lib.hid hL
 have ht0 := hjd.tab
 have htl := ht0.lt
 have HT0 := Lib.hid ht0
 have hgl := hlog.lt
 have hyl := heap_lt hy0
 obtain ⟨C, E, cb, pl, cl, hg0, hch0, -, hC, -⟩ := hlog.ex
 have hgt : ¬ gb = tb := (hL gb hlog.own).2.1
 have hgy : ¬ gb = yb := (hL gb hlog.own).2.2
 have g0 := cell_of hg0 0
 have y0 := cell_of hy0 0
 have y1 := cell_of hy0 1
 simp only [List.getElem?_toArray, List.getElem?_cons_zero, List.getElem?_cons_succ] at g0 y0 y1
 have HG0 := Lib.hid g0
 have HY := Lib.hid y0
 have HY1 := Lib.hid y1
 obtain ⟨X, hX⟩ : ∃ X, w.heap.size = X := ⟨_, rfl⟩
 have HX := Lib.hid hX
 have hlX : gb < X ∧ yb < X ∧ tb < X := ⟨by omega, by omega, by omega⟩
 have HRX := Lib.hid hyt
 clear hg0 hch0 hC hX g0 y0 y1 hy0 hFy hjd hlog hJ hL ht0 htl hgl hyl hy hyt
 go_enter Tryz.func11, Tryz.ntmps11
 go_upto_region 1 with (fail)
 rw [HX.out]
 generalize hw1 : World.alloc w _ = w1
 have hx1 : w1.heap[X]? = some (.cells #[.int .i64 k, .slice p nb c] 42 (0, 0)) := by rw [← hw1, ← HX.out]; exact heap_alloc_new _ _
 have hm1 : Mod nil w w1 := by rw [← hw1]; exact (Mod.refl _ _).alloc _
 have HM1 := Lib.hid hm1
 have HX1 := Lib.hid hx1
 have HNEW : Hid (∀ W, Mod nil w1 W → Calls Tryz.prog 28 #[.pointer (some ⟨tb, 0, none⟩)] W fun e w' => ∃ cb, e = .returned (.pointer (some ⟨cb, 0, none⟩)) ∧ IsChain (fun k => w1.heap.size ≤ k) w' cb tb zeros32 0 ∧ Mod nil W w') := Lib.hid (fun W m => by
  refine (chainNew tb W).mono ?_
  rintro e w' ⟨cb, rfl, hc, hmm⟩
  exact ⟨cb, rfl, hc.mono (fun k _ h => Nat.le_trans m.size h), hmm⟩)
 have HK : Hid (∀ W, Mod (· = tb) w1 W → (fun w' => w'.cell? ⟨yb, 0, none⟩ = some (.pointer (some ⟨gb, 0, none⟩)) ∧ w'.cell? ⟨gb, 0, none⟩ = some (.pointer (some ⟨tb, 0, none⟩)) ∧ w'.cell? ⟨X, 0, none⟩ = some (.int .i64 k) ∧ w'.cell? ⟨X, 1, none⟩ = some (.slice p nb c)) W) := Lib.hid (fun W m => by
  have x0 := cell_of HX1.out 0
  have x1 := cell_of HX1.out 1
  simp only [List.getElem?_toArray, List.getElem?_cons_zero, List.getElem?_cons_succ] at x0 x1
  have hs := HM1.out.size
  exact ⟨cell_kept (cell_kept HY.out HM1.out (by have := HX.out; omega) (not_nil _)) m (by have := HX.out; omega) HRX.out, cell_kept (cell_kept HG0.out HM1.out (by have := HX.out; omega) (not_nil _)) m (by have := HX.out; omega) hgt, cell_kept x0 m (heap_lt HX1.out) (by omega), cell_kept x1 m (heap_lt HX1.out) (by omega)⟩)
 clear hw1 hx1 hm1
 refine region_till (fun w' => w'.cell? ⟨yb, 0, none⟩ = some (.pointer (some ⟨gb, 0, none⟩)) ∧ w'.cell? ⟨gb, 0, none⟩ = some (.pointer (some ⟨tb, 0, none⟩)) ∧ w'.cell? ⟨X, 0, none⟩ = some (.int .i64 k) ∧ w'.cell? ⟨X, 1, none⟩ = some (.slice p nb c)) 10 (by kernel_rfl) ?_
 refine sF 0 (fun _ => HK.out _ mD) ?_
 refine sF 1 (fun _ => HK.out _ mD) ?_
 refine sF 2 (fun _ => HK.out _ mD) ?_
 refine sT 3 (HK.out _ mD) ?_
 refine sF 4 (fun _ => HK.out _ mD) ?_
 refine sF 5 (fun _ => HK.out _ mD) ?_
 refine sT 6 (HK.out _ mD) ?_
 refine sT 8 (HK.out _ mD) ?_
 refine rT 7 (fun K hK => ?_)
 go_simp
 refine (HNEW.out _ ?_).mono ?_
 ·exact mD
 rintro e w2 ⟨ch, rfl, hch2, hm2⟩
 have hm2' : Mod (· = tb) w1 w2 := (show Mod (· = tb) w1 _ from mD).thenNil hm2
 have hm2n : Mod nil w1 w2 := (show Mod nil w1 _ from mD).thenNil hm2
 refine hK.out _ _ (fun _ => HK.out _ mD) ?_
 clear hK K
 (try simp only [Act.put, pT])
 refine rT 9 (fun K hK => ?_)
 go_simp
 refine (HADD.out ch _ ?_).mono ?_
 ·exact trivial
 rintro e w3 ⟨rfl, hm3⟩
 have hm3n : Mod nil w1 w3 := hm2n.thenNil ((show Mod nil w2 _ from mD).thenNil hm3)
 have hm3' : Mod (· = tb) w1 w3 := hm3n.ofNil
 refine hK.out _ _ (fun _ => HK.out _ mD) ?_
 clear hK K
 (try simp only [Act.put, pT])
 refine rT 10 (fun K hK => ?_)
 go_simp
 refine hK.out _ _ (fun h => (by simp at h)) ?_
 clear hK K
 (try simp only [Act.put, pT])
 refine till_done (by kernel_rfl) ?_ _
 have HE := Lib.hid (HPOST.out _ w3 ⟨rfl, HM1.out.thenNil hm3n⟩)
 clear hm2 hm2' hm2n hm3 hm3n hm3'
 go_wp2_with fail
 exact HE.out
theorem u8_one (x : UInt8) (w : World) (g : Nat) (hg : w.heap.size = g) : IsVec (fun k => w.heap.size ≤ k) (w.alloc (.cells #[.int .u8 x.toNat] 5)) 5 1 (.slice (some ⟨g, 0, none⟩) 1 1) 1 (bys [x]) := by
 subst hg
 exact ⟨⟨by simp [bys], .inr ⟨w.heap.size, 1, #[.int .u8 x.toNat], rfl, Nat.zero_le _, heap_alloc_new _ _, Nat.le_refl _, by unfold maxLen; omega, by simp, by simp [bys]⟩⟩, fun k hk => by simp [Value.ownBlock] at hk; omega⟩
set_option maxRecDepth 100000 in
set_option maxHeartbeats 4000000 in
theorem diaryAdd (F T : Nat → Prop) (yb tb db bl bm nb c k : Nat) (y : YS) (body : List UInt8) (p : Option Addr) (w : World) (hy : IsY F w yb tb db bl bm y) (hlim : y.s.Lim (y.d.lasts.length / 2)) (hrow : IsRow T w (.slice p nb c) (bys body)) (hT : ∀ j, T j → j < w.heap.size ∧ ¬ F j ∧ j ≠ tb)
  (hk : k ≤ 255) (hnb : nb ≤ 60000) (hll : y.l.length ≤ 1000000) :
  Calls Tryz.prog 11 #[.pointer (some ⟨yb, 0, none⟩), .agg #[.int .i64 (k : Nat), .slice p nb c]] w fun e w' => e = .returned (.int .i64 (y.add ⟨(k : Nat), body⟩).2) ∧ IsY (fun j => F j ∨ w.heap.size ≤ j) w' yb tb db bl bm (y.add ⟨(k : Nat), body⟩).1 ∧ Mod (fun j => F j ∨ j = tb) w w' := by
 refine (?_ : ∀ Post : Ending → World → Prop, Hid (∀ e w', (e = .returned (.int .i64 (y.add ⟨(k : Nat), body⟩).2) ∧ IsY (fun j => F j ∨ w.heap.size ≤ j) w' yb tb db bl bm (y.add ⟨(k : Nat), body⟩).1 ∧ Mod (fun j => F j ∨ j = tb) w w') → Post e w') → Calls Tryz.prog 11 #[.pointer (some ⟨yb, 0, none⟩), .agg #[.int .i64 (k : Nat), .slice p nb c]] w Post) _ (Lib.hid (fun _ _ h => h))
 intro Post HPOST
 have hbl : body.length = nb := by
  obtain ⟨_, _, h, _⟩ := hrow
  simp only [Value.slice.injEq, bys_length] at h
  exact h.2.1.symm
 have HBL := Lib.hid hbl
 have HTT := Lib.hid hT
 have HR0 := Lib.hid hrow
 have HLIM := Lib.hid hlim
 have HLL := Lib.hid hll
 clear hbl hT hrow hlim hll
 obtain ⟨gb, jb, J, L, hy0, hFy, hyt, hjd, hlog, hJ, hL⟩ := hy.ex
 have HY0 := Lib.hid hy0
 have HFY := Lib.hid hFy
 have HYT := Lib.hid hyt
 have HJD0 := Lib.hid hjd
 have HLG0 := Lib.hid hlog
 have HJ := Lib.hid hJ
 have HL := Lib.hid hL
 have ht0 := hjd.tab
 have htl := ht0.lt
 have HT0 := Lib.hid ht0
 have hgl := hlog.lt
 have hyl := heap_lt hy0
 obtain ⟨C, E, cb, pl, cl, hg0, hch0, -, hC, -⟩ := hlog.ex
 have hgt : ¬ gb = tb := (hL gb hlog.own).2.1
 have hgy : ¬ gb = yb := (hL gb hlog.own).2.2
 have g0 := cell_of hg0 0
 have y0 := cell_of hy0 0
 have y1 := cell_of hy0 1
 simp only [List.getElem?_toArray, List.getElem?_cons_zero, List.getElem?_cons_succ] at g0 y0 y1
 have HG0 := Lib.hid g0
 have HY := Lib.hid y0
 have HY1 := Lib.hid y1
 obtain ⟨X, hX⟩ : ∃ X, w.heap.size = X := ⟨_, rfl⟩
 have HX := Lib.hid hX
 have hlX : gb < X ∧ yb < X ∧ tb < X := ⟨by omega, by omega, by omega⟩
 have HRX := Lib.hid hyt
 clear hg0 hch0 hC hX g0 y0 y1 hy0 hFy hjd hlog hJ hL ht0 htl hgl hyl hy hyt
 go_enter Tryz.func11, Tryz.ntmps11
 go_upto_region 1 with (fail)
 rw [HX.out]
 generalize hw1 : World.alloc w _ = w1
 have hx1 : w1.heap[X]? = some (.cells #[.int .i64 (k : Nat), .slice p nb c] 42 (0, 0)) := by rw [← hw1, ← HX.out]; exact heap_alloc_new _ _
 have hm1 : Mod nil w w1 := by rw [← hw1]; exact (Mod.refl _ _).alloc _
 have HM1 := Lib.hid hm1
 have HX1 := Lib.hid hx1
 have HNEW : Hid (∀ W, Mod nil w1 W → Calls Tryz.prog 28 #[.pointer (some ⟨tb, 0, none⟩)] W fun e w' => ∃ cb, e = .returned (.pointer (some ⟨cb, 0, none⟩)) ∧ IsChain (fun k => w1.heap.size ≤ k) w' cb tb zeros32 0 ∧ Mod nil W w') := Lib.hid (fun W m => by
  refine (chainNew tb W).mono ?_
  rintro e w' ⟨cb, rfl, hc, hmm⟩
  exact ⟨cb, rfl, hc.mono (fun k _ h => Nat.le_trans m.size h), hmm⟩)
 have HK : Hid (∀ W, Mod (· = tb) w1 W → (fun w' => w'.cell? ⟨yb, 0, none⟩ = some (.pointer (some ⟨gb, 0, none⟩)) ∧ w'.cell? ⟨gb, 0, none⟩ = some (.pointer (some ⟨tb, 0, none⟩)) ∧ w'.cell? ⟨X, 0, none⟩ = some (.int .i64 (k : Nat)) ∧ w'.cell? ⟨X, 1, none⟩ = some (.slice p nb c)) W) := Lib.hid (fun W m => by
  have x0 := cell_of HX1.out 0
  have x1 := cell_of HX1.out 1
  simp only [List.getElem?_toArray, List.getElem?_cons_zero, List.getElem?_cons_succ] at x0 x1
  have hs := HM1.out.size
  exact ⟨cell_kept (cell_kept HY.out HM1.out (by have := HX.out; omega) (not_nil _)) m (by have := HX.out; omega) HRX.out, cell_kept (cell_kept HG0.out HM1.out (by have := HX.out; omega) (not_nil _)) m (by have := HX.out; omega) hgt, cell_kept x0 m (heap_lt HX1.out) (by omega), cell_kept x1 m (heap_lt HX1.out) (by omega)⟩)
 clear hw1 hx1 hm1
 refine region_till (fun w' => w'.cell? ⟨yb, 0, none⟩ = some (.pointer (some ⟨gb, 0, none⟩)) ∧ w'.cell? ⟨gb, 0, none⟩ = some (.pointer (some ⟨tb, 0, none⟩)) ∧ w'.cell? ⟨X, 0, none⟩ = some (.int .i64 (k : Nat)) ∧ w'.cell? ⟨X, 1, none⟩ = some (.slice p nb c)) 10 (by kernel_rfl) ?_
 refine sF 0 (fun _ => HK.out _ mD) ?_
 refine sF 1 (fun _ => HK.out _ mD) ?_
 refine sF 2 (fun _ => HK.out _ mD) ?_
 refine sT 3 (HK.out _ mD) ?_
 refine sF 4 (fun _ => HK.out _ mD) ?_
 refine sF 5 (fun _ => HK.out _ mD) ?_
 refine sT 6 (HK.out _ mD) ?_
 refine sT 8 (HK.out _ mD) ?_
 refine rT 7 (fun K hK => ?_)
 go_simp
 refine (HNEW.out _ ?_).mono ?_
 ·exact mD
 rintro e w2 ⟨ch, rfl, hch2, hm2⟩
 have hm2' : Mod (· = tb) w1 w2 := (show Mod (· = tb) w1 _ from mD).thenNil hm2
 have hm2n : Mod nil w1 w2 := (show Mod nil w1 _ from mD).thenNil hm2
 refine hK.out _ _ (fun _ => HK.out _ mD) ?_
 clear hK K
 (try simp only [Act.put, pT])
 refine rT 9 (fun K hK => ?_)
 go_simp
 have HADD : Hid (∀ W, Mod nil w2 W → Calls Tryz.prog 35 #[.pointer (some ⟨ch, 0, none⟩), .agg #[.int .i64 (k : Nat), .slice p nb c]] W fun e w' => e = .returned (.int .i64 0) ∧ IsTab w' tb ∧ Mod (fun j => j = ch ∨ j = tb) W w') := Lib.hid (fun W m => by
  refine (chainAdd _ T ch tb 0 k nb c zeros32 body p W (hch2.modNil m) (HT0.out.mod (HM1.out.thenNil (hm2n.thenNil m)) (not_nil _)) (HR0.out.modNil (HM1.out.thenNil (hm2n.thenNil m))) (fun h => by have h1 : w1.heap.size ≤ tb := h; have := HM1.out.size; have := HX.out; omega) hk hnb (by omega)).mono ?_
  rintro e w' ⟨rfl, ht, -, hmm⟩
  exact ⟨rfl, ht, hmm⟩)
 refine (HADD.out _ ?_).mono ?_
 ·exact mD
 rintro e w3 ⟨rfl, ht3, hm3⟩
 have hch : w1.heap.size ≤ ch := hch2.own
 have hm3' : Mod (· = tb) w1 w3 := hm2'.trans ((show Mod nil w2 _ from mD).ofNil.trans hm3 (fun _ _ h => h)) (fun j hj h => by rcases h with h | h; omega; exact h)
 refine hK.out _ _ (fun _ => HK.out _ mD) ?_
 clear hK K
 (try simp only [Act.put, pT])
 refine rT 10 (fun K hK => ?_)
 go_simp
 refine hK.out _ _ (fun h => (by simp at h)) ?_
 clear hK K
 (try simp only [Act.put, pT])
 refine till_done (by kernel_rfl) ?_ _
 have HM3 := Lib.hid hm3'
 have HX3 := Lib.hid ((hm3'.block X (heap_lt HX1.out) (by omega)).trans HX1.out)
 have HMW3 : Hid (Mod (· = tb) w w3) := Lib.hid (HM1.out.ofNil.trans hm3' (fun _ _ h => h))
 have HT3 := Lib.hid ht3
 have hX3 : X < w3.heap.size := heap_lt HX3.out
 have HJD3 : Hid (IsJD (fun j => J j ∧ j < X) w3 jb tb db bl bm y.s y.d) := Lib.hid (by
  have h := HJD0.out.mono (G := fun j => J j ∧ j < X) (fun j hj h => ⟨h, by have := HX.out; omega⟩)
  obtain ⟨S, C, h1, h2, h3, h4⟩ := h.ex
  exact ⟨HT3.out, S, C, h1.mod HMW3.out (fun j _ hs e => (h4 j (.inl hs)).2.1 e), h2.mod HMW3.out (fun j _ hs e => (h4 j (.inr hs)).2.1 e), h3, fun j hj => ⟨(h4 j hj).1, (h4 j hj).2.1, Nat.lt_of_lt_of_le (h4 j hj).2.2 HMW3.out.size⟩⟩)
 have HR3 : Hid (IsRow T w3 (.slice p nb c) (bys body)) := Lib.hid (HR0.out.mod HMW3.out (fun j _ hj e => (HTT.out j hj).2.2 e))
 have hw8 : IntKind.u8.wrap (k : Int) = ((UInt8.ofNat k).toNat : Int) := by rw [IntKind.wrap_u8]; simp
 obtain ⟨w4, hw4⟩ : ∃ w4, (w3.alloc (.cells #[.int .u8 (UInt8.ofNat k).toNat] 5)).drew = w4 := ⟨_, rfl⟩
 have hm4 : Mod nil w3 w4 := by rw [← hw4]; exact ((Mod.refl _ _).alloc _).drew
 have hv4 : IsVec (fun j => w3.heap.size ≤ j) w4 5 1 (.slice (some ⟨w3.heap.size, 0, none⟩) 1 1) 1 (bys [UInt8.ofNat k]) := by rw [← hw4]; exact (u8_one _ w3 _ rfl).modNil ((Mod.refl _ _).drew)
 obtain ⟨v8, w8, hrun8, hvec8, hmod8⟩ := bytes_append (l := [UInt8.ofNat k]) (m := body) 40 (by simpa using hv4) (HR3.out.modNil hm4) (by rw [HBL.out]; simp; omega)
 have hl8 : ([UInt8.ofNat k] ++ body).length = nb + 1 := by simp [HBL.out]
 rw [hl8] at hvec8
 obtain ⟨p8, c8, hv8e, hcap8, -⟩ := vecCap hvec8
 subst hv8e
 have hm48 : Mod nil w3 w8 := hm4.new hmod8 (fun j h => h)
 have hrd : IsRow (fun j => X < j ∧ j < w8.heap.size) w8 (.slice p8 (nb + 1) c8) (bys (recOf ⟨(k : Nat), body⟩)) := by
  have h := hvec8.row.here
  refine h.mono (fun j _ h => ⟨?_, h.2⟩)
  rcases h.1 with h1 | h1
  ·have h1' : w3.heap.size ≤ j := h1; omega
  ·have := hm4.size; have h1' : w4.heap.size ≤ j := h1; omega
 have HRD := Lib.hid hrd
 have HM8 := Lib.hid hm48
 have hmJ8 : Mod (fun j => (J j ∧ j < X) ∨ j = tb) w3 w8 := HM8.out.ofNil
 rw [← hw4] at hrun8
 have HAPP : Hid (∀ W, Mod nil w8 W → Calls Tryz.prog 36 #[.pointer (some ⟨jb, 0, none⟩), .slice p8 (nb + 1) c8] W fun e w' => e = .returned (.int .i64 (y.s.appends y.d (recOf ⟨(k : Nat), body⟩)).2.2) ∧ IsJD (fun j => (J j ∧ j < X) ∨ w8.heap.size ≤ j) w' jb tb db bl bm (y.s.appends y.d (recOf ⟨(k : Nat), body⟩)).1 (y.s.appends y.d (recOf ⟨(k : Nat), body⟩)).2.1 ∧ Mod (fun j => (J j ∧ j < X) ∨ j = tb) W w') := Lib.hid (fun W m => by
  refine (jAppend _ _ jb tb db bl bm y.s y.d p8 (nb + 1) c8 (recOf ⟨(k : Nat), body⟩) W (HJD3.out.modNil (HM8.out.thenNil m)) HLIM.out (HRD.out.modNil m) (fun j hj => ⟨Nat.lt_of_lt_of_le hj.2 m.size, fun h => by have := h.2; have := hj.1; omega, by have := hj.1; omega⟩) hcap8).mono ?_
  rintro e w' ⟨rfl, hj, hmm⟩
  exact ⟨rfl, hj.mono (fun j _ h => h.imp id (fun h => Nat.le_trans m.size h)), hmm⟩)
 obtain ⟨ER, hER⟩ : ∃ ER, (y.s.appends y.d (recOf ⟨(k : Nat), body⟩)).2.2 = ER := ⟨_, rfl⟩
 rw [hER] at HAPP
 have HER := Lib.hid hER
 have HEN : Hid (¬ entErr (k : Nat) nb ≠ 0) := Lib.hid (fun h => h (by unfold entErr; rw [if_neg (by omega), if_neg (by omega)]))
 clear HK
 have HK : Hid (∀ W, Mod (fun j => (J j ∧ j < X) ∨ j = tb) w3 W → (fun w' => w'.cell? ⟨yb, 1, none⟩ = some (.pointer (some ⟨jb, 0, none⟩)) ∧ w'.cell? ⟨X, 0, none⟩ = some (.int .i64 (k : Nat)) ∧ w'.cell? ⟨X, 1, none⟩ = some (.slice p nb c)) W) := Lib.hid (fun W m => by
  have x0 := cell_of HX3.out 0
  have x1 := cell_of HX3.out 1
  simp only [List.getElem?_toArray, List.getElem?_cons_zero, List.getElem?_cons_succ] at x0 x1
  have hJX : ¬ ((J X ∧ X < X) ∨ X = tb) := by omega
  exact ⟨cell_kept (cell_kept HY1.out HMW3.out (by have := HX.out; omega) HRX.out) m (by have := HMW3.out.size; have := HX.out; omega) (fun h => h.elim (fun h => (HJ.out yb h.1).2.2.1 rfl) HRX.out), cell_kept x0 m hX3 hJX, cell_kept x1 m hX3 hJX⟩)
 clear hm2 hm2' hm2n hch2 HADD hm3 hm3' ht3 hch hw4 hv4 hvec8 hmod8 hm48 hrd hm4 hl8 hER
 go_upto_region 4 with (fail)
 refine region_till (fun w' => w'.cell? ⟨yb, 1, none⟩ = some (.pointer (some ⟨jb, 0, none⟩)) ∧ w'.cell? ⟨X, 0, none⟩ = some (.int .i64 (k : Nat)) ∧ w'.cell? ⟨X, 1, none⟩ = some (.slice p nb c)) 12 (by kernel_rfl) ?_
 refine sF 0 (fun _ => HK.out _ mD) ?_
 refine sF 1 (fun _ => HK.out _ mD) ?_
 refine sF 2 (fun _ => HK.out _ mD) ?_
 refine sT 3 (HK.out _ mD) ?_
 refine sF 4 (fun _ => HK.out _ mD) ?_
 refine sT 5 (HK.out _ mD) ?_
 refine sF 6 (fun _ => HK.out _ mD) ?_
 refine sF 8 (fun _ => HK.out _ mD) ?_
 refine sT 9 (HK.out _ mD) ?_
 refine rT 7 (fun K hK => ?_)
 go_simp
 refine hK.out _ _ (fun _ => HK.out _ mD) ?_
 clear hK K
 (try simp only [Act.put, pT])
 refine rT 10 (fun K hK => ?_)
 refine step_append_run rfl _ _ _ _ rfl rfl rfl hrun8 ?_
 refine hK.out _ _ (fun _ => HK.out _ mD) ?_
 clear hK K
 (try simp only [Act.put, pT])
 refine rT 11 (fun K hK => ?_)
 go_simp
 refine (HAPP.out _ ?_).mono ?_
 ·exact mD
 rintro e w5 ⟨rfl, hj5, hm5⟩
 have hm5' : Mod (fun j => (J j ∧ j < X) ∨ j = tb) w3 w5 := HM8.out.ofNil.trans ((show Mod nil w8 _ from mD).ofNil.trans hm5 (fun _ _ h => h)) (fun _ _ h => h)
 refine hK.out _ _ (fun _ => HK.out _ mD) ?_
 clear hK K
 (try simp only [Act.put, pT])
 refine rT 12 (fun K hK => ?_)
 go_simp
 refine hK.out _ _ (fun h => (by simp at h)) ?_
 clear hK K
 (try simp only [Act.put, pT])
 refine till_done (by kernel_rfl) ?_ _
 have HM5 := Lib.hid hm5'
 have hs5 := HM5.out.size
 have hs8 := HM8.out.size
 have HJD5 : Hid (IsJD (fun j => ((J j ∧ j < X) ∨ w8.heap.size ≤ j) ∧ j < w5.heap.size) w5 jb tb db bl bm (y.s.appends y.d (recOf ⟨(k : Nat), body⟩)).1 (y.s.appends y.d (recOf ⟨(k : Nat), body⟩)).2.1) := Lib.hid (hj5.mono (fun j hj h => ⟨h, hj⟩))
 have hLJ : ∀ j, L j → j < X → ¬ ((J j ∧ j < X) ∨ j = tb) := fun j hl _ h => by
  rcases h with h | h
  ·exact (HJ.out j h.1).2.2.2 hl
  ·exact (HL.out j hl).2.1 h
 have HMW5 : Hid (Mod (fun j => (J j ∧ j < X) ∨ j = tb) w w5) := Lib.hid ((HMW3.out.mono (fun _ _ h => .inr h)).trans HM5.out (fun _ _ h => h))
 have HLG5 : Hid (IsLog (fun j => L j ∧ j < X) w5 gb tb y.l) := Lib.hid ((HLG0.out.mono (T := fun j => L j ∧ j < X) (fun j hj h => ⟨h, by have := HX.out; omega⟩)).mod HMW5.out (fun j _ hj => hLJ j hj.1 hj.2))
 have HY5 : Hid (w5.heap[yb]? = _) := Lib.hid ((HMW5.out.block yb (by have := HX.out; omega) (fun h => h.elim (fun h => (HJ.out yb h.1).2.2.1 rfl) HRX.out)).trans HY0.out)
 have hX5 : X < w5.heap.size := by omega
 have HXX : Hid (w5.heap[X]? = _) := Lib.hid ((HM5.out.block X hX3 (by omega)).trans HX3.out)
 have HFJ : Hid (∀ j, ((J j ∧ j < X) ∨ w8.heap.size ≤ j) ∧ j < w5.heap.size → (F j ∨ w.heap.size ≤ j) ∧ j ≠ tb ∧ ¬ j = yb ∧ ¬ (L j ∧ j < X)) := Lib.hid (fun j hj => by
  rcases hj.1 with h | h
  ·have := HJ.out j h.1; exact ⟨.inl this.1, this.2.1, this.2.2.1, fun hl => this.2.2.2 hl.1⟩
  ·have := HX.out; exact ⟨.inr (by omega), by omega, by omega, by omega⟩)
 have HFM : Hid (Mod (fun j => F j ∨ j = tb) w w5) := Lib.hid (HMW5.out.mono (fun j _ h => h.imp (fun h => (HJ.out j h.1).1) id))
 have HT5 := Lib.hid HJD5.out.tab
 by_cases h0 : ER = 0
 ·subst h0
  have HADD : Hid (y.add ⟨(k : Nat), body⟩ = (⟨(y.s.appends y.d (recOf ⟨(k : Nat), body⟩)).1, (y.s.appends y.d (recOf ⟨(k : Nat), body⟩)).2.1, y.l ++ [⟨(k : Nat), body⟩]⟩, 0)) := Lib.hid (by
   unfold YS.add
   simp only [HBL.out]
   rw [if_neg HEN.out, if_pos HER.out])
  have HKP : Hid (∀ W, Mod nil w5 W → Calls Tryz.prog 32 #[.pointer (some ⟨gb, 0, none⟩), .agg #[.int .i64 (k : Nat), .slice p nb c]] W fun e w' => e = .returned (.int .i64 0) ∧ IsTab w' tb ∧ IsLog (fun j => (L j ∧ j < X) ∨ w5.heap.size ≤ j) w' gb tb (y.l ++ [⟨(k : Nat), body⟩]) ∧ Mod (fun j => (L j ∧ j < X) ∨ j = tb) W w') := Lib.hid (fun W m => by
   refine (logKeep _ T gb tb k nb c y.l body p W (HLG5.out.modNil m) (HT5.out.mod m (not_nil _)) ((HR0.out.mod HMW5.out (fun j _ hj h => by rcases h with h | h; exact (HTT.out j hj).2.1 (HJ.out j h.1).1; exact (HTT.out j hj).2.2 h)).modNil m) (fun h => (HL.out tb h.1).2.1 rfl) (fun j hj => ⟨fun h => (HTT.out j hj).2.1 (HL.out j h.1).1, (HTT.out j hj).2.2⟩) hk hnb HLL.out).mono ?_
   rintro e w' ⟨rfl, ht, hl, hmm⟩
   exact ⟨rfl, ht, hl.mono (fun j _ h => h.imp id (fun h => Nat.le_trans m.size h)), hmm⟩)
  clear HK
  have HK : Hid (∀ W, Mod (fun j => (L j ∧ j < X) ∨ j = tb) w5 W → (fun w' => w'.cell? ⟨yb, 0, none⟩ = some (.pointer (some ⟨gb, 0, none⟩)) ∧ w'.cell? ⟨X, 0, none⟩ = some (.int .i64 (k : Nat)) ∧ w'.cell? ⟨X, 1, none⟩ = some (.slice p nb c)) W) := Lib.hid (fun W m => by
   have x0 := cell_of HXX.out 0
   have x1 := cell_of HXX.out 1
   have y0 := cell_of HY5.out 0
   simp only [List.getElem?_toArray, List.getElem?_cons_zero, List.getElem?_cons_succ] at x0 x1 y0
   have hLX : ¬ ((L X ∧ X < X) ∨ X = tb) := by omega
   exact ⟨cell_kept y0 m (heap_lt HY5.out) (fun h => h.elim (fun h => (HL.out yb h.1).2.2 rfl) HRX.out), cell_kept x0 m hX5 hLX, cell_kept x1 m hX5 hLX⟩)
  clear hj5 hm5 hm5' hLJ hs5 hs8 hrun8
  go_upto_region 7 with (fail)
  refine region_till (fun w' => w'.cell? ⟨yb, 0, none⟩ = some (.pointer (some ⟨gb, 0, none⟩)) ∧ w'.cell? ⟨X, 0, none⟩ = some (.int .i64 (k : Nat)) ∧ w'.cell? ⟨X, 1, none⟩ = some (.slice p nb c)) 6 (by kernel_rfl) ?_
  refine sF 0 (fun _ => HK.out _ mD) ?_
  refine sF 1 (fun _ => HK.out _ mD) ?_
  refine sF 2 (fun _ => HK.out _ mD) ?_
  refine sT 3 (HK.out _ mD) ?_
  refine sT 4 (HK.out _ mD) ?_
  refine rT 5 (fun K hK => ?_)
  go_simp
  refine (HKP.out _ ?_).mono ?_
  ·exact mD
  rintro e w6 ⟨rfl, ht6, hl6, hm6⟩
  have hm6' : Mod (fun j => (L j ∧ j < X) ∨ j = tb) w5 w6 := (show Mod (fun j => (L j ∧ j < X) ∨ j = tb) w5 _ from mD).trans hm6 (fun _ _ h => h)
  refine hK.out _ _ (fun _ => HK.out _ mD) ?_
  clear hK K
  (try simp only [Act.put, pT])
  refine rT 6 (fun K hK => ?_)
  go_simp
  refine hK.out _ _ (fun h => (by simp at h)) ?_
  clear hK K
  (try simp only [Act.put, pT])
  refine till_done (by kernel_rfl) ?_ _
  have HE := Lib.hid (HPOST.out _ w6 ⟨by rw [HADD.out], by
   rw [HADD.out]
   refine ⟨gb, jb, fun j => ((J j ∧ j < X) ∨ w8.heap.size ≤ j) ∧ j < w5.heap.size, _, (hm6'.block yb (heap_lt HY5.out) (fun h => h.elim (fun h => (HL.out yb h.1).2.2 rfl) HRX.out)).trans HY5.out, .inl HFY.out, HYT.out, ?_, hl6, fun j hj => ?_, fun j hj => ?_⟩
   ·obtain ⟨S, C', h1, h2, h3, h4⟩ := HJD5.out.ex
    exact ⟨ht6, S, C', h1.mod hm6' (fun j _ hs e => by rcases e with e | e; exact (HFJ.out j (h4 j (.inl hs)).1).2.2.2 e; exact (h4 j (.inl hs)).2.1 e), h2.mod hm6' (fun j _ hs e => by rcases e with e | e; exact (HFJ.out j (h4 j (.inr hs)).1).2.2.2 e; exact (h4 j (.inr hs)).2.1 e), h3, fun j hj => ⟨(h4 j hj).1, (h4 j hj).2.1, Nat.lt_of_lt_of_le (h4 j hj).2.2 hm6'.size⟩⟩
   ·have h := HFJ.out j hj
    exact ⟨h.1, h.2.1, h.2.2.1, fun hl => hl.elim h.2.2.2 (fun hl => by have := hj.2; omega)⟩
   ·rcases hj with h | h
    ·exact ⟨.inl (HL.out j h.1).1, (HL.out j h.1).2⟩
    ·have := HX.out; exact ⟨.inr (by omega), by omega, by omega⟩, HFM.out.trans (hm6'.mono (T := fun j => F j ∨ j = tb) (fun j _ h => h.imp (fun h => (HL.out j h.1).1) id)) (fun _ _ h => h)⟩)
  clear hm6 hm6' hl6 ht6
  go_wp2_with fail
  exact HE.out
 ·have h0b : (ER != 0) = true := by simpa using h0
  have HADD : Hid (y.add ⟨(k : Nat), body⟩ = (⟨(y.s.appends y.d (recOf ⟨(k : Nat), body⟩)).1, (y.s.appends y.d (recOf ⟨(k : Nat), body⟩)).2.1, y.l⟩, ER)) := Lib.hid (by
   unfold YS.add
   simp only [HBL.out]
   rw [if_neg HEN.out, HER.out, if_neg h0])
  have HE := Lib.hid (HPOST.out _ w5 ⟨by rw [HADD.out], by
   rw [HADD.out]
   exact ⟨gb, jb, _, _, HY5.out, .inl HFY.out, HYT.out, HJD5.out, HLG5.out, HFJ.out, fun j hj => ⟨.inl (HL.out j hj.1).1, (HL.out j hj.1).2⟩⟩, HFM.out⟩)
  clear hj5 hm5 hm5' hLJ hs5 hs8 hrun8
  go_wp2_with fail
  exact HE.out
end Go.Proofs.YtdfahddpkkeldaaGreat

/- Package diary: Open. (Printed by wip/tools/gen_diaryopen.py.) -/
namespace Go.Proofs.YtdfahddpkkeldaaGreat
open Go.RowKit
/-- a record as an entry -/
def enOf (r : List UInt8) : En := ⟨((r.headD 0).toNat : Nat), r.tail⟩
theorem enOf_rec (e : En) (h0 : 0 ≤ e.k) (h1 : e.k ≤ 255) : enOf (recOf e) = e := by
 obtain ⟨k, b⟩ := e
 obtain ⟨n, rfl⟩ := Int.eq_ofNat_of_zero_le h0
 simp only [enOf, recOf, List.headD_cons, List.tail_cons, Int.toNat_natCast]
 congr 1
 simp at h1 ⊢
 omega
theorem IsDT.modTab {F : Nat → Prop} {w w' : World} {tb db bl bm : Nat} {d : DS} (h : IsDT F w tb db bl bm d) (ht : IsTab w' tb) (m : Mod (· = tb) w w') : IsDT F w' tb db bl bm d := by
 obtain ⟨h0, C, h1, h2⟩ := h
 exact ⟨ht, C, h1.mod m (fun k _ hk e => (h2 k hk).2.1 e), fun k hk => ⟨(h2 k hk).1, (h2 k hk).2.1, Nat.lt_of_lt_of_le (h2 k hk).2.2 m.size⟩⟩
set_option maxRecDepth 100000 in
set_option maxHeartbeats 2000000 in
theorem diaryOpen (F : Nat → Prop) (tb db bl bm : Nat) (d : DS) (w : World) (h : IsDT F w tb db bl bm d) (hrl : ∀ r ∈ d.opens.recs, r.length ≤ 60000) (hpl : d.opens.pict.length ≤ 60000) (hrn : d.opens.recs.length ≤ 100000) :
    Calls Tryz.prog 9 #[.pointer (some ⟨tb, 0, none⟩), .pointer (some ⟨db, 0, none⟩)] w fun e w' => (∃ yb, w.heap.size ≤ yb ∧ (d.opens.has = false ∧ ∀ r ∈ d.opens.recs, r ≠ []) ∧ e = .returned (.tuple #[.pointer (some ⟨yb, 0, none⟩), .int .i64 0]) ∧ IsY (fun j => F j ∨ w.heap.size ≤ j) w' yb tb db bl bm ⟨d.opens, d, d.opens.recs.map enOf⟩ ∧ Mod (· = tb) w w') ∨ (¬ (d.opens.has = false ∧ ∀ r ∈ d.opens.recs, r ≠ []) ∧ e = .returned (.tuple #[.pointer none, .int .i64 2]) ∧ IsDT F w' tb db bl bm d ∧ Mod (· = tb) w w') := by
  refine (?_ : ∀ Post : Ending → World → Prop, Hid (∀ e w', ((∃ yb, w.heap.size ≤ yb ∧ (d.opens.has = false ∧ ∀ r ∈ d.opens.recs, r ≠ []) ∧ e = .returned (.tuple #[.pointer (some ⟨yb, 0, none⟩), .int .i64 0]) ∧ IsY (fun j => F j ∨ w.heap.size ≤ j) w' yb tb db bl bm ⟨d.opens, d, d.opens.recs.map enOf⟩ ∧ Mod (· = tb) w w') ∨ (¬ (d.opens.has = false ∧ ∀ r ∈ d.opens.recs, r ≠ []) ∧ e = .returned (.tuple #[.pointer none, .int .i64 2]) ∧ IsDT F w' tb db bl bm d ∧ Mod (· = tb) w w')) → Post e w') → Calls Tryz.prog 9 #[.pointer (some ⟨tb, 0, none⟩), .pointer (some ⟨db, 0, none⟩)] w Post) _ (Lib.hid (fun _ _ h => h))
  intro Post HPOST
  have HDT := Lib.hid h
  have HRL := Lib.hid hrl
  have HPL := Lib.hid hpl
  have HRN := Lib.hid hrn
  have htl := h.1.lt
  obtain ⟨X, hX⟩ : ∃ X, w.heap.size = X := ⟨_, rfl⟩
  have HX := Lib.hid hX
  have htX : tb < X := by omega
  clear h hrl hpl hrn hX htl
  go_enter Tryz.func9, Tryz.ntmps9
  go_wp2_with fail
  refine (chainNew tb w).mono ?_
  rintro e w1 ⟨cb, rfl, hch1, hm1⟩
  have HCH1 := Lib.hid hch1
  have HM1 := Lib.hid hm1
  have hs1 := hm1.size
  obtain ⟨gb, hgb⟩ : ∃ gb, w1.heap.size = gb := ⟨_, rfl⟩
  have hcl := hch1.lt
  have HGB := Lib.hid hgb
  have hgX : X ≤ gb ∧ cb < gb ∧ X ≤ cb := ⟨by have := HX.out; omega, by omega, by have := hch1.own; have := HX.out; omega⟩
  clear hch1 hm1 hs1 hgb hcl
  go_wp2_with fail
  (try rw [HGB.out])
  generalize hw2 : World.alloc w1 _ = w2
  have hg2 : w2.heap[gb]? = some (.cells #[.pointer (some ⟨tb, 0, none⟩), .pointer (some ⟨cb, 0, none⟩), .slice none 0 0] 96 (0, 0)) := by rw [← hw2, ← HGB.out]; exact heap_alloc_new _ _
  have hm2 : Mod nil w1 w2 := by rw [← hw2]; exact (Mod.refl _ _).alloc _
  have hs2 : w2.heap.size = gb + 1 := by rw [← hw2, ← HGB.out]; simp
  obtain ⟨L0, hL0⟩ : ∃ L0 : Nat → Prop, L0 = fun k => X ≤ k ∧ k < gb + 1 := ⟨_, rfl⟩
  have HL0 : Hid (∀ k, L0 k ↔ X ≤ k ∧ k < gb + 1) := Lib.hid (fun k => by rw [hL0])
  have HLOG2 : Hid (IsLog L0 w2 gb tb []) := Lib.hid ⟨by rw [hL0]; exact ⟨hgX.1, by omega⟩, fun k => X ≤ k ∧ k < gb, fun _ => False, cb, none, 0, hg2, ((HCH1.out.mono (T := fun k => X ≤ k ∧ k < gb) (fun k hk h => ⟨by have := HX.out; omega, by have := HGB.out; omega⟩)).modNil hm2), IsEnts.nil _ _, fun k hk => ⟨by rw [hL0]; exact ⟨hk.1, by omega⟩, by omega, id⟩, fun k hk => hk.elim⟩
  have HM2 := Lib.hid (HM1.out.thenNil hm2)
  have HDT2 : Hid (IsDT (fun k => F k ∧ k < X) w2 tb db bl bm d) := Lib.hid (by
    obtain ⟨h0, C, h1, h2⟩ := HDT.out
    exact ⟨h0.mod HM2.out (not_nil _), C, h1.modNil HM2.out, fun k hk => ⟨⟨(h2 k hk).1, by have := (h2 k hk).2.2; have := HX.out; omega⟩, (h2 k hk).2.1, Nat.lt_of_lt_of_le (h2 k hk).2.2 HM2.out.size⟩⟩)
  clear hw2 hg2 hm2 hL0
  refine (jOpen _ tb db bl bm d w2 HDT2.out).mono ?_
  rintro e w3 ⟨jb, rfl, hjb, hj3, hm3⟩
  have HJ3 := Lib.hid hj3.exact
  have hs3 := hm3.size
  have hjl : jb < w3.heap.size := by obtain ⟨S, C, h1, -⟩ := hj3.ex; exact h1.lt
  obtain ⟨yb, hyb⟩ : ∃ yb, w3.heap.size = yb := ⟨_, rfl⟩
  have hyg : gb < yb := by omega
  have HYB := Lib.hid hyb
  have HM3 : Hid (Mod (· = tb) w w3) := Lib.hid (HM2.out.ofNil.trans hm3 (fun _ _ h => h))
  have HLOG3 : Hid (IsLog L0 w3 gb tb []) := Lib.hid (HLOG2.out.mod hm3 (fun k _ hk e => by have := (HL0.out k).1 hk; omega))
  have HB2 := Lib.hid hs2
  clear hj3 hm3 hs3 hyb hs2
  go_wp2_with fail
  (try rw [HYB.out])
  generalize hw4 : World.alloc w3 _ = w4
  have hy4 : w4.heap[yb]? = some (.cells #[.pointer (some ⟨gb, 0, none⟩), .pointer (some ⟨jb, 0, none⟩)] 56 (0, 0)) := by rw [← hw4, ← HYB.out]; exact heap_alloc_new _ _
  have hm4 : Mod nil w3 w4 := by rw [← hw4]; exact (Mod.refl _ _).alloc _
  have y1 := cell_of hy4 1
  simp only [List.getElem?_toArray, List.getElem?_cons_zero, List.getElem?_cons_succ] at y1
  have HY4 := Lib.hid hy4
  have HJ4 := Lib.hid (HJ3.out.modNil hm4)
  have HLOG4 := Lib.hid (HLOG3.out.modNil hm4)
  have HM4 := Lib.hid (HM3.out.thenNil hm4)
  obtain ⟨O, hO⟩ : ∃ O, d.opens = O := ⟨_, rfl⟩
  have HO := Lib.hid hO
  rw [hO] at HJ4 HRL HPL HRN HPOST
  have HPIC : Hid (Calls Tryz.prog 30 #[.pointer (some ⟨jb, 0, none⟩)] w4 fun e w' => ∃ p c, e = .returned (.tuple #[.slice p O.pict.length c, .bool O.has]) ∧ Mod nil w4 w') := Lib.hid ((jdPicture HJ4.out HPL.out).mono (fun e w' ⟨p, c, h1, _, h3⟩ => ⟨p, c, h1, h3⟩))
  have HBAD : Hid (¬ (O.has = false ∧ ∀ r ∈ O.recs, r ≠ []) → ∀ w', IsTab w' tb → Mod (· = tb) w w' → Post (.returned (.tuple #[.pointer none, .int .i64 2])) w') := Lib.hid (fun hb w' ht hm => HPOST.out _ _ (.inr ⟨hb, rfl, HDT.out.modTab ht hm, hm⟩))
  clear hw4 hy4 hm4 hO
  go_wp2_with fail
  refine HPIC.out.mono ?_
  rintro e w5 ⟨p5, c5, rfl, hm5⟩
  have HM5 := Lib.hid (HM4.out.thenNil hm5)
  have HJ5 := Lib.hid (HJ4.out.modNil hm5)
  have HLOG5 := Lib.hid (HLOG4.out.modNil hm5)
  have HY5 := Lib.hid (hm5.keep HY4.out)
  have y1' := cell_kept y1 hm5 (heap_lt HY4.out) (not_nil _)
  obtain ⟨hs, hhs⟩ : ∃ hs, O.has = hs := ⟨_, rfl⟩
  have HHS := Lib.hid hhs
  rw [hhs]
  clear hm5 y1 hhs HY4 HJ4 HLOG4
  cases hs with
  | true =>
    have HE := Lib.hid (HBAD.out (fun h => by have h1 := h.1; rw [HHS.out] at h1; cases h1) w5 HJ5.out.tab HM5.out)
    clear y1'
    go_wp2_with fail
    exact HE.out
  | false =>
    have HREC := Lib.hid (jdRecordsC HJ5.out HRL.out HRN.out)
    obtain ⟨n, hn⟩ : ∃ n, O.recs.length = n := ⟨_, rfl⟩
    have HN := Lib.hid hn
    have hnb : n ≤ 100000 := by rw [← hn]; exact HRN.out
    rw [hn] at HREC
    clear hn
    go_wp2_with fail
    refine HREC.out.mono ?_
    rintro e w6 ⟨p6, c6, rfl, ht6, hm6⟩
    obtain ⟨B6, hB6⟩ : ∃ B6, w6.heap.size = B6 := ⟨_, rfl⟩
    have HB6 := Lib.hid hB6
    have hs56 := hm6.size
    have hyl5 : yb < w5.heap.size := heap_lt HY5.out
    have HTX6 : Hid (IsTextsC (fun k => w5.heap.size ≤ k ∧ k < B6) w6 (.slice p6 n c6) n O.recs) := Lib.hid (ht6.mono (fun k hk h => ⟨h, by omega⟩))
    have HM6 := Lib.hid (HM5.out.thenNil hm6)
    have HJ6 := Lib.hid (HJ5.out.modNil hm6)
    have HLOG6 := Lib.hid (HLOG5.out.modNil hm6)
    have HY6 := Lib.hid (hm6.keep HY5.out)
    have hyB : yb < B6 := by omega
    clear ht6 hm6 hB6 y1' hs56 HREC HPIC
    go_wp2_with fail
    go_loopw [36] (fun v36 wr => ∃ i : Nat, i ≤ n ∧ v36 = .int .i64 i ∧ Hid (∀ r ∈ O.recs.take i, r ≠ []) ∧ Hid (IsLog (fun k => L0 k ∨ B6 ≤ k) wr gb tb ((O.recs.take i).map enOf)) ∧ Hid (IsTab wr tb) ∧ Hid (Mod (fun k => L0 k ∨ k = tb) w6 wr)) (fun v _ => n - (intOf v).toNat)
    case atStart => exact ⟨0, by omega, rfl, Lib.hid (by simp), Lib.hid (HLOG6.out.mono (fun _ _ h => .inl h)), Lib.hid HJ6.out.tab, Lib.hid (Mod.refl _ _)⟩
    case round =>
      obtain ⟨i, hi, rfl, HNE, HLR, HTR, HMR⟩ := hrel
      have hmw : Mod (· = tb) w wr := HM6.out.trans HMR.out (fun k hk h => by rcases h with h | h; have := (HL0.out k).1 h; have := HX.out; omega; exact h)
      have HMW := Lib.hid hmw
      have hLk : ∀ k, (w5.heap.size ≤ k ∧ k < B6) → ¬ (L0 k ∨ k = tb) := fun k hk h => by rcases h with h | h; have := (HL0.out k).1 h; omega; omega
      have HTXR : Hid (IsTextsC (fun k => w5.heap.size ≤ k ∧ k < B6) wr (.slice p6 n c6) n O.recs) := Lib.hid (HTX6.out.mod HMR.out (fun k _ hk => hLk k hk))
      have HYR : Hid (wr.heap[yb]? = _) := Lib.hid ((HMR.out.block yb (by have := HB6.out; omega) (by rintro (h | h); have := (HL0.out yb).1 h; omega; omega)).trans HY6.out)
      clear hmw
      by_cases hlt : i < n
      · obtain ⟨gt, x, rfl, hgt, hx, hrow, hcap⟩ := HTXR.out.at i hlt
        have HTK : Hid (O.recs.take (i + 1) = O.recs.take i ++ [O.recs.getD i []]) := Lib.hid (by rw [List.take_succ_eq_append_getElem (by rw [HN.out]; exact hlt), List.getD_eq_getElem?_getD, List.getElem?_eq_getElem (by rw [HN.out]; exact hlt)]; rfl)
        have hmem : O.recs.getD i [] ∈ O.recs := by rw [List.getD_eq_getElem?_getD, List.getElem?_eq_getElem (by rw [HN.out]; exact hlt)]; exact List.getElem_mem _
        have hrlen := HRL.out _ hmem
        obtain ⟨r, hr⟩ : ∃ r, O.recs.getD i [] = r := ⟨_, rfl⟩
        rw [hr] at hrow HTK hmem hrlen
        obtain ⟨px, cx, rfl, -⟩ := id hrow
        rw [bys_length] at hx hrow hcap
        obtain ⟨hcx, hcm⟩ := hcap _ _ _ rfl
        have HMEM := Lib.hid hmem
        cases r with
        | nil =>
          have HE := Lib.hid (HBAD.out (fun h => h.2 _ HMEM.out rfl) wr HTR.out HMW.out)
          simp only [List.length_nil] at hx
          clear hrow hcap hmem hrlen hr hcx
          go_upto_region 8 with (fail)
          refine wp_region_held_drew (S := (fun _ => True)) (by kernel_rfl) (trivial) (fun hHeld => ?_)
          refine sH 0 ?_
          refine rH 1 (fun K hK => ?_)
          go_simp
          refine hK.out _ _ (trivial) (fun hHeld => ?_)
          clear hK K
          (try simp only [Act.put, pT])
          refine sH 2 ?_
          refine sH 3 ?_
          refine sS 4 ?_
          refine sS 5 ?_
          refine sS 6 ?_
          refine sS 7 ?_
          refine sS 8 ?_
          refine sS 9 ?_
          refine sS 10 ?_
          refine sS 11 ?_
          refine sS 12 ?_
          refine sS 13 ?_
          refine sS 14 ?_
          refine sS 15 ?_
          refine sS 16 ?_
          refine sH 17 ?_
          refine wpAnyH_done (by kernel_rfl) ?_ _
          have HE2 : Hid (∀ k, Post (.returned (.tuple #[.pointer none, .int .i64 2])) (wr.drewN k)) := Lib.hid (fun k => HBAD.out (fun h => h.2 _ HMEM.out rfl) _ (HTR.out.mod ((Mod.refl nil wr).drewN k) (not_nil _)) (HMW.out.drewN k))
          go_wp2_with fail
          exact HE2.out 1
        | cons a t =>
          have HROW := Lib.hid hrow
          obtain ⟨m, hm⟩ : ∃ m, t.length = m := ⟨_, rfl⟩
          have HMT := Lib.hid hm
          rw [List.length_cons, hm] at hx HROW hcx hrlen
          obtain ⟨M, hM⟩ : ∃ M, m + 1 = M := ⟨_, rfl⟩
          rw [hM] at hx HROW hcx hrlen
          have HMM := Lib.hid hM
          obtain ⟨gr, or_, rfl, hgr, hgrl⟩ := row_some HROW.out (by omega)
          have hb0 : wr.cell? ⟨gr, or_, none⟩ = some (.int .u8 a.toNat) := by
            obtain ⟨_, _, e, hc⟩ := HROW.out
            simp only [Value.slice.injEq] at e
            obtain ⟨rfl, -, -⟩ := e
            obtain ⟨b', o', e1, -, -, h4⟩ := hc 0 (by simp [bys])
            simp only [Option.some.injEq, Addr.mk.injEq, and_true] at e1
            obtain ⟨rfl, rfl⟩ := e1
            simpa [bys] using h4
          have hM1 : 0 < M := by omega
          have hnz : ((M : Int) == 0) = false := by simp; omega
          obtain ⟨p2, hsl0, hrowsl⟩ := slice_from _ (some ⟨gr, or_, none⟩) M cx 1 (a :: t) wr HROW.out (by omega) hcx
          rw [show M - 1 = m by omega] at hsl0 hrowsl
          have hsl : ∀ W, (Instr.slice 40 (.slice (some ⟨gr, or_, none⟩) M cx) (some (.int .i64 1)) none none).run Tryz.prog W = .ok (.slice p2 m (cx - 1)) W := fun W => hsl0 W
          clear hsl0 hM
          have hidx : ((0 : Nat) : Int) = 0 := rfl
          have ha255 : a.toNat ≤ 255 := by have := a.toNat_lt; omega
          have hconv : IntKind.i64.wrap ((a.toNat : Nat) : Int) = ((a.toNat : Nat) : Int) := by rw [IntKind.wrap_i64]; omega
          have HRT : Hid (∀ W, Mod nil wr W → IsRow (fun k => w5.heap.size ≤ k ∧ k < B6) W (.slice p2 m (cx - 1)) (bys t)) := Lib.hid (fun W mm => by
            have := hrowsl W (HROW.out.modNil mm)
            simpa using this)
          have HKP : Hid (∀ W, Mod nil wr W → Calls Tryz.prog 32 #[.pointer (some ⟨gb, 0, none⟩), .agg #[.int .i64 (a.toNat : Nat), .slice p2 m (cx - 1)]] W fun e w' => e = .returned (.int .i64 0) ∧ IsTab w' tb ∧ IsLog (fun k => L0 k ∨ B6 ≤ k) w' gb tb ((O.recs.take (i + 1)).map enOf) ∧ Mod (fun j => (L0 j ∨ B6 ≤ j) ∨ j = tb) W w') := Lib.hid (fun W mm => by
            refine (logKeep _ _ gb tb a.toNat m (cx - 1) _ t p2 W (HLR.out.modNil mm) (HTR.out.mod mm (not_nil _)) (HRT.out W mm) (fun h => by rcases h with h | h; have := (HL0.out tb).1 h; omega; have := hyB; omega) (fun j hj => ⟨fun h => by rcases h with h | h; have := (HL0.out j).1 h; omega; omega, by omega⟩) ha255 (by have := HMM.out; omega) (by rw [List.length_map, List.length_take]; have := HN.out; have := HRN.out; omega)).mono ?_
            rintro e w' ⟨rfl, ht, hl, hmm⟩
            refine ⟨rfl, ht, ?_, hmm⟩
            rw [HTK.out, List.map_append]
            exact hl.mono (fun j _ h => h.elim id (fun h => .inr (by have := mm.size; have := HMR.out.size; have := HB6.out; omega))))
          have HKK : Hid (∀ W, Mod (fun j => ((L0 j ∨ B6 ≤ j) ∨ j = tb)) wr W → (fun w' => w'.cell? ⟨yb, 0, none⟩ = some (.pointer (some ⟨gb, 0, none⟩)) ∧ w'.cell? ⟨gr, or_, none⟩ = some (.int .u8 a.toNat)) W) := Lib.hid (fun W mm => by
            have y0 := cell_of HYR.out 0
            simp only [List.getElem?_toArray, List.getElem?_cons_zero, List.getElem?_cons_succ] at y0
            exact ⟨cell_kept y0 mm (heap_lt HYR.out) (by rintro ((h | h) | h); have := (HL0.out yb).1 h; omega; omega; omega), cell_kept hb0 mm hgrl (by rintro ((h | h) | h); have := (HL0.out gr).1 h; omega; omega; omega)⟩)
          have HK := HKK
          clear hrow hmem hr hm hrowsl hb0 hcap hidx
          go_upto_region 8 with (fail)
          refine wp_region_held_drew (S := (fun w' => w'.cell? ⟨yb, 0, none⟩ = some (.pointer (some ⟨gb, 0, none⟩)) ∧ w'.cell? ⟨gr, or_, none⟩ = some (.int .u8 a.toNat))) (by kernel_rfl) (HK.out _ mD) (fun hHeld => ?_)
          refine sH 0 ?_
          refine rH 1 (fun K hK => ?_)
          go_simp
          refine hK.out _ _ (HK.out _ mD) (fun hHeld => ?_)
          clear hK K
          (try simp only [Act.put, pT])
          refine sH 2 ?_
          refine sH 3 ?_
          refine sH 4 ?_
          refine sH 5 ?_
          refine sH 6 ?_
          refine sH 7 ?_
          refine sH 8 ?_
          refine sH 9 ?_
          refine sH 10 ?_
          refine sH 11 ?_
          refine sH 12 ?_
          refine sH 13 ?_
          refine sH 14 ?_
          refine rH 15 (fun K hK => ?_)
          go_simp
          refine (HKP.out _ ?_).mono ?_
          · exact mD
          rintro e w7 ⟨rfl, ht7, hl7, hm7⟩
          have hm7' : Mod (fun j => ((L0 j ∨ B6 ≤ j) ∨ j = tb)) wr w7 := (show Mod (fun j => ((L0 j ∨ B6 ≤ j) ∨ j = tb)) wr _ from mD).trans hm7 (fun _ _ h => h)
          refine hK.out _ _ (HK.out _ mD) (fun hHeld => ?_)
          clear hK K
          (try simp only [Act.put, pT])
          refine sH 16 ?_
          refine sH 17 ?_
          refine wpAnyH_done (by kernel_rfl) ?_ _
          have HE1 : Hid (∀ r ∈ O.recs.take (i + 1), r ≠ []) := Lib.hid (fun r hr => by
            rw [HTK.out] at hr
            rcases List.mem_append.1 hr with h | h
            · exact HNE.out r h
            · rw [List.mem_singleton.1 h]; exact List.cons_ne_nil _ _)
          have HL7 := Lib.hid hl7
          have HT7 := Lib.hid ht7
          have HM7 : Hid (Mod (fun k => L0 k ∨ k = tb) w6 w7) := Lib.hid (HMR.out.trans hm7' (fun k hk h => by rcases h with (h | h) | h; exact .inl h; have := HB6.out; omega; exact .inr h))
          clear hl7 ht7 hm7 hm7' hHeld HKK HK
          go_wp2_with fail
          exact ⟨⟨i + 1, by omega, by go_num, HE1, HL7, HT7, HM7⟩, by simp [intOf]; omega⟩
      · obtain rfl : i = n := by omega
        have htake : O.recs.take i = O.recs := List.take_of_length_le (by rw [HN.out]; exact Nat.le_refl _)
        have HJR : Hid (IsJD (fun k => (((F k ∧ k < X) ∨ gb + 1 ≤ k) ∧ k ≠ tb ∧ k < yb)) wr jb tb db bl bm O d) := Lib.hid (by
          have h : IsJD (fun k => (((F k ∧ k < X) ∨ gb + 1 ≤ k) ∧ k ≠ tb ∧ k < yb)) w6 jb tb db bl bm O d := HJ6.out.mono (fun k _ h => ⟨h.1.imp id (fun h' => by have := HB2.out; omega), h.2.1, by have := HYB.out; omega⟩)
          obtain ⟨S, C, h1, h2, h3, h4⟩ := h.ex
          have hno : ∀ k, ((((F k ∧ k < X) ∨ gb + 1 ≤ k) ∧ k ≠ tb ∧ k < yb)) → ¬ (L0 k ∨ k = tb) := fun k hk h => by
            rcases h with h | h
            · have := (HL0.out k).1 h; omega
            · exact hk.2.1 h
          exact ⟨HTR.out, S, C, h1.mod HMR.out (fun k _ hs => hno k (h4 k (.inl hs)).1), h2.mod HMR.out (fun k _ hs => hno k (h4 k (.inr hs)).1), h3, fun k hk => ⟨(h4 k hk).1, (h4 k hk).2.1, Nat.lt_of_lt_of_le (h4 k hk).2.2 HMR.out.size⟩⟩)
        have HLG : Hid (IsLog (fun k => L0 k ∨ B6 ≤ k) wr gb tb (O.recs.map enOf)) := Lib.hid (by have h := HLR.out; rw [htake] at h; exact h)
        have HALL : Hid (∀ r ∈ O.recs, r ≠ []) := Lib.hid (by have h := HNE.out; rw [htake] at h; exact h)
        have HE := Lib.hid (HPOST.out _ wr (.inl ⟨yb, by have := HX.out; omega, ⟨HHS.out, HALL.out⟩, rfl, ⟨gb, jb, _, _, HYR.out, .inr (by have := HX.out; omega), by omega, HJR.out, HLG.out, fun k hk => ⟨hk.1.imp (fun h => h.1) (fun h => by have := HX.out; omega), hk.2.1, by omega, fun h => by rcases h with h | h; have := (HL0.out k).1 h; omega; omega⟩, fun k hk => ⟨.inr (by have := HX.out; rcases hk with h | h; have := (HL0.out k).1 h; omega; omega), by rcases hk with h | h; have := (HL0.out k).1 h; omega; omega, by rcases hk with h | h; have := (HL0.out k).1 h; omega; omega⟩⟩, HMW.out⟩))
        clear htake HNE HLR HTR HMR
        go_wp2_with fail
        exact HE.out
end Go.Proofs.YtdfahddpkkeldaaGreat

/- Package diary over a disk without a fuse, plain; cfllaw23.first. (Printed by wip/tools/gen_diarylaw.py.) -/
namespace Go.Proofs.YtdfahddpkkeldaaGreat
open Go.RowKit
structure YI (n N : Nat) (y : YS) : Prop where
 good : Good y.d n
 pend : y.d.pend = []
 hN : n / 2 = N
 pi : PI y.d.curs N y.s
 has : y.s.has = false
 recs : y.s.recs = y.l.map recOf
 ok : ∀ e ∈ y.l, 0 ≤ e.k ∧ e.k ≤ 255 ∧ e.b.length ≤ 59999
theorem YI.fresh (n N : Nat) (hN : n / 2 = N) (hn : n ≤ 8192) : YI n N ⟨JS.fresh (freshDisk n), freshDisk n, []⟩ :=
 ⟨freshDisk_good n, rfl, hN, freshDisk_PI n N hN hn, rfl, rfl, fun e he => by simp at he⟩
theorem YI.opens {n N : Nat} {y : YS} (h : YI n N y) : y.d.opens = y.s := h.pi.opens h.good h.hN
theorem YI.map {n N : Nat} {y : YS} (h : YI n N y) : y.s.recs.map enOf = y.l := by
 rw [h.recs, List.map_map]
 conv => rhs; rw [← List.map_id y.l]
 exact List.map_congr_left (fun e he => enOf_rec e (h.ok e he).1 (h.ok e he).2.1)
theorem YI.full (n N : Nat) (y : YS) (h : YI n N y) : ∀ r ∈ y.s.recs, r ≠ [] := fun r hr => by
 rw [h.recs] at hr
 obtain ⟨e, -, rfl⟩ := List.mem_map.1 hr
 exact List.cons_ne_nil _ _
theorem YI.half {n N : Nat} {y : YS} (h : YI n N y) : y.d.lasts.length / 2 = N := by rw [h.good.len, h.hN]
theorem YI.lim {n N : Nat} {y : YS} (h : YI n N y) : y.s.Lim (y.d.lasts.length / 2) := by rw [h.half]; exact h.pi.lim
theorem YI.len {n N : Nat} {y : YS} (h : YI n N y) : y.l.length = y.s.recs.length := by rw [h.recs, List.length_map]
theorem YI.few {n N : Nat} {y : YS} (h : YI n N y) : y.l.length ≤ 4096 := by
  rw [h.len]
  have := h.pi.lim.2.2.1; have := h.pi.lim.2.2.2; have := h.pi.room.2; omega
theorem recOf_length (e : En) : (recOf e).length = e.b.length + 1 := by simp [recOf]
theorem entErr_ok {k : Int} {n : Nat} (h0 : 0 ≤ k) (h1 : k ≤ 255) (hn : n ≤ 60000) : entErr k n = 0 := by unfold entErr; rw [if_neg (by omega), if_neg (by omega)]
theorem YI.add_ok {n N : Nat} {y : YS} (h : YI n N y) (e : En) (h0 : 0 ≤ e.k) (h1 : e.k ≤ 255) (hb : e.b.length ≤ 59999) (hr : y.s.at_ + sectorsF (e.b.length + 1) ≤ N) :
  ∃ y', y.add e = (y', 0) ∧ YI n N y' ∧ y'.l = y.l ++ [e] ∧ y'.s.at_ = y.s.at_ + sectorsF (e.b.length + 1) := by
 obtain ⟨d', hap, hg, hp, hi⟩ := h.pi.appends h.good h.hN (recOf e) (by rw [recOf_length]; omega) (by rw [recOf_length]; exact hr)
 refine ⟨⟨{ y.s with recs := y.s.recs ++ [recOf e], at_ := y.s.at_ + sectorsF (recOf e).length }, d', y.l ++ [e]⟩, ?_, ⟨hg, hp, h.hN, hi, h.has, ?_, ?_⟩, rfl, ?_⟩
 ·unfold YS.add
  rw [entErr_ok h0 h1 (by omega), if_neg (by simp), hap, if_pos rfl]
 ·simp [h.recs]
 ·intro x hx
  rcases List.mem_append.1 hx with hx | hx
  ·exact h.ok x hx
  ·rw [List.mem_singleton.1 hx]; exact ⟨h0, h1, hb⟩
 ·simp only [recOf_length]
/-- Open over such a disk -/
theorem diaryOpen_ok {n N : Nat} {y : YS} (h : YI n N y) (F : Nat → Prop) (tb db bl bm : Nat) (w : World) (hdt : IsDT F w tb db bl bm y.d) :
  Calls Tryz.prog 9 #[.pointer (some ⟨tb, 0, none⟩), .pointer (some ⟨db, 0, none⟩)] w fun e w' => ∃ yb, w.heap.size ≤ yb ∧ e = .returned (.tuple #[.pointer (some ⟨yb, 0, none⟩), .int .i64 0]) ∧ IsY (fun j => F j ∨ w.heap.size ≤ j) w' yb tb db bl bm y ∧ Mod (· = tb) w w' := by
 have ho := h.opens
 have hb := h.pi.bod
 refine (diaryOpen F tb db bl bm y.d w hdt (by rw [ho]; exact hb.2) (by rw [ho]; exact hb.1) (by rw [ho, ← h.len]; have := h.few; omega)).mono ?_
 rintro e w' (⟨yb, h1, h2, h3, h4, h5⟩ | ⟨h1, -⟩)
 ·refine ⟨yb, h1, h3, ?_, h5⟩
  rw [ho, h.map] at h4
  exact h4
 ·exact absurd ⟨by rw [ho]; exact h.has, by rw [ho]; exact h.full⟩ h1
theorem IsY.log {F : Nat → Prop} {w : World} {yb tb db bl bm : Nat} {y : YS} (h : IsY F w yb tb db bl bm y) : ∃ gb L, w.cell? ⟨yb, 0, none⟩ = some (.pointer (some ⟨gb, 0, none⟩)) ∧ yb < w.heap.size ∧ IsLog L w gb tb y.l ∧ (∀ k, L k → F k) ∧ F yb := by
 obtain ⟨gb, jb, J, L, h1, h2, h3, h4, h5, h6, h7⟩ := h.ex
 have c0 := cell_of h1 0
 simp only [List.getElem?_toArray, List.getElem?_cons_zero] at c0
 exact ⟨gb, L, c0, heap_lt h1, h5, fun k hk => (h7 k hk).1, h2⟩
set_option maxRecDepth 100000 in
set_option maxHeartbeats 2000000 in
theorem yFirst (w : World) : Calls Tryz.prog 4 #[] w fun e w' => e = .returned (.bool true) ∧ Mod nil w w' := by
 refine (?_ : ∀ Post : Ending → World → Prop, Hid (∀ e w', (e = .returned (.bool true) ∧ Mod nil w w') → Post e w') → Calls Tryz.prog 4 #[] w Post) _ (Lib.hid (fun _ _ h => h))
 intro Post HPOST
 have hmk : ∀ W, (Instr.makeSlice 40 (.int .i64 32) (.int .i64 32)).run Tryz.prog W = .ok (.slice (some ⟨W.heap.size, 0, Option.none⟩) 32 32) (W.alloc (.cells (bys zeros32).toArray 5)) := fun W => by
  obtain ⟨i0, hi0, hz0, hz1, hz2⟩ := info_parts info_u8
  rw [zeros32, bys_replicate0]
  exact run_make_one 40 5 i0 _ 1 Tryz.underlying40 hi0 hz0 hz1 hz2 rfl 32 (by omega) (by unfold maxLen; omega) W
 have HMK := Lib.hid hmk
 clear hmk
 go_enter Tryz.func4, Tryz.ntmps4
 go_wp2_with fail
 refine (diskNew 8 w (by omega) (by omega)).mono ?_
 rintro e w1 ⟨db, bl, bm, C, rfl, hd1, hfoot, hm1⟩
 have HY0 : Hid (YI 8 4 ⟨JS.fresh (freshDisk 8), freshDisk 8, []⟩) := Lib.hid (YI.fresh 8 4 rfl (by omega))
 obtain ⟨d, hd⟩ : ∃ d, freshDisk 8 = d := ⟨_, rfl⟩
 rw [hd] at HY0 hd1
 clear hd
 go_wp2_with fail
 refine (shaNewTable w1).mono ?_
 rintro e w2 ⟨tb, rfl, ht2, htb, hm2⟩
 have HDT : Hid (IsDT (fun k => w.heap.size ≤ k) w2 tb db bl bm d) := Lib.hid (IsDT.of (hd1.here.modNil hm2) ht2 (fun k hk _ => by
  obtain ⟨vl, h1, _⟩ := hd1.lasts
  obtain ⟨vm, h4, _⟩ := hd1.pend
  have a1 := heap_lt hd1.obj
  have a2 := heap_lt h1
  have a3 := h4.lt
  have q1 := hfoot db (.inl rfl)
  have q2 := hfoot bl (.inr (.inl rfl))
  have q3 := hfoot bm (.inr (.inr (.inl rfl)))
  rcases hk with h | h | h | h
  ·omega
  ·omega
  ·omega
  ·have := h.2; have := hfoot k (.inr (.inr (.inr h.1))); omega))
 have HM2 : Hid (Mod nil w w2) := Lib.hid (hm1.thenNil hm2)
 have htb0 : w.heap.size ≤ tb := Nat.le_trans hm1.size htb
 clear hd1 hfoot hm1 ht2 hm2 htb
 go_wp2_with fail
 refine (diaryOpen_ok HY0.out _ tb db bl bm w2 HDT.out).mono ?_
 rintro e w4 ⟨yb, hyb, rfl, hy4, hm4⟩
 have HM4 : Hid (Mod nil w w4) := Lib.hid (HM2.out.new hm4 (fun k h => by rw [h]; exact htb0))
 obtain ⟨gb, L, y0, hyl, hlog, -, -⟩ := hy4.log
 have HENT : Hid (∀ W, Mod nil w4 W → Calls Tryz.prog 23 #[.pointer (some ⟨gb, 0, none⟩)] W fun e w' => ∃ p c, e = .returned (.slice p 0 c) ∧ Mod nil W w') := Lib.hid (fun W m => (logEntries L gb tb [] W (hlog.modNil m) (fun e he => by simp at he) (by simp)).mono (fun e w' ⟨p, c, h1, h2, h3⟩ => ⟨p, c, h1, h3⟩))
 have HLEN : Hid (∀ W, Mod nil w4 W → Calls Tryz.prog 24 #[.pointer (some ⟨gb, 0, none⟩)] W fun e w' => e = .returned (.int .i64 0) ∧ W = w') := Lib.hid (fun W m => logLen L gb tb [] W (hlog.modNil m))
 have HHD : Hid (∀ W, Mod nil w4 W → Calls Tryz.prog 26 #[.pointer (some ⟨gb, 0, none⟩)] W fun e w' => ∃ p c, e = .returned (.slice p 32 c) ∧ IsVec (fun k => W.heap.size ≤ k) w' 5 1 (.slice p 32 c) 32 (bys zeros32) ∧ Mod nil W w') := Lib.hid (fun W m => logHead L gb tb [] W (hlog.modNil m))
 have HK : Hid (∀ W, Mod nil w4 W → (fun w' => w'.cell? ⟨yb, 0, none⟩ = some (.pointer (some ⟨gb, 0, none⟩))) W) := Lib.hid (fun W m => cell_kept y0 m hyl (not_nil _))
 have HEND : Hid (∀ W, Mod nil w4 W → Post (.returned (.bool true)) W) := Lib.hid (fun W m => HPOST.out _ _ ⟨rfl, HM4.out.thenNil m⟩)
 have hmk := HMK.out
 clear hy4 hm4 hlog y0 hyl hyb
 go_upto_region 5 with (fail)
 refine wp_region_held_drew (S := (fun w' => w'.cell? ⟨yb, 0, none⟩ = some (.pointer (some ⟨gb, 0, none⟩)))) (by kernel_rfl) (HK.out _ mD) (fun hHeld => ?_)
 refine sH 0 ?_
 refine sH 1 ?_
 refine sH 2 ?_
 refine sH 3 ?_
 refine sH 4 ?_
 refine sH 5 ?_
 refine sH 6 ?_
 refine sH 7 ?_
 refine sH 8 ?_
 refine sH 9 ?_
 refine sH 10 ?_
 refine rH 11 (fun K hK => ?_)
 go_simp
 refine (HENT.out _ ?_).mono ?_
 ·exact mD
 rintro e wa ⟨pa, ca, rfl, hma⟩
 have hma' : Mod nil w4 wa := (show Mod nil w4 _ from mD).thenNil hma
 refine hK.out _ _ (HK.out _ mD) (fun hHeld => ?_)
 clear hK K
 (try simp only [Act.put, pT])
 refine sH 12 ?_
 refine sH 13 ?_
 refine sH 14 ?_
 refine sH 15 ?_
 refine sH 16 ?_
 refine sH 17 ?_
 refine sH 18 ?_
 refine sH 19 ?_
 refine rH 20 (fun K hK => ?_)
 go_simp
 refine (HLEN.out _ ?_).mono ?_
 ·exact mD
 rintro e w' ⟨rfl, rfl⟩
 refine hK.out _ _ (HK.out _ mD) (fun hHeld => ?_)
 clear hK K
 (try simp only [Act.put, pT])
 refine sH 21 ?_
 refine sH 22 ?_
 refine sH 23 ?_
 refine sH 24 ?_
 refine sH 25 ?_
 refine sH 26 ?_
 refine sH 27 ?_
 refine wpAnyH_ready (rs := [28, 29]) (by kernel_rfl) (by simp) ?_
 refine AllReadyH.cons (i := 28) rfl (fun K hK => ?_) ?_
 ·(try dsimp (config := { proj := false }) only [g0, g1, g2])
  go_simp
  refine (HHD.out _ ?_).mono ?_
  ·exact mD
  rintro e wb ⟨pb, cb, rfl, hvb, hmb⟩
  have hmb' : Mod nil w4 wb := (show Mod nil w4 _ from mD).thenNil hmb
  refine hK.out _ _ (HK.out _ mD) (fun hHeld => ?_)
  clear hK K
  (try simp only [Act.put, pT])
  refine rH 29 (fun K hK => ?_)
  go_simp
  generalize hwz : World.alloc _ _ = wz
  have hmz : Mod nil w4 wz := by rw [← hwz]; exact (show Mod nil w4 _ from mD)
  have hz : IsRow (fun _ => True) wz (.slice (some ⟨wb.heap.size, 0, none⟩) 32 32) (bys zeros32) := by rw [← hwz]; exact IsRow.ofBlock (S := fun _ => True) (heap_alloc_new _ _) trivial 32 32 (by simp [bys, zeros32])
  have hvv := hvb.row.modNil (show Mod nil wb wz from by rw [← hwz]; (repeat (first | assumption | exact Mod.refl _ _ | refine Mod.drew ?_ | refine Mod.alloc ?_ _)))
  clear hwz
  refine hK.out _ _ (HK.out _ mD) (fun hHeld => ?_)
  clear hK K
  (try simp only [Act.put, pT])
  refine rH 30 (fun K hK => ?_)
  go_simp
  refine (refBytesW (fun _ => True) (fun _ => True) _ _ zeros32 zeros32 _ ?_ ?_).mono ?_
  ·first | exact (hvv.mono (fun _ _ _ => trivial)).modNil mD | exact (hvb.row.mono (fun _ _ _ => trivial)).modNil mD
  ·first | exact hzz.modNil mD | exact hz.modNil mD
  rw [decide_eq_true rfl]
  rintro e wy ⟨rfl, rfl⟩
  refine hK.out _ _ (HK.out _ mD) (fun hHeld => ?_)
  clear hK K
  (try simp only [Act.put, pT])
  refine sH 31 ?_
  refine sH 32 ?_
  refine wpAnyH_done (by kernel_rfl) ?_ _
  go_wp2_with fail
  exact HEND.out _ mD
 refine AllReadyH.cons (i := 29) rfl (fun K hK => ?_) AllReadyH.nil
 (try dsimp (config := { proj := false }) only [g0, g1, g2])
 go_simp
 generalize hwz : World.alloc _ _ = wz
 have hmz : Mod nil w4 wz := by rw [← hwz]; exact (show Mod nil w4 _ from mD)
 have hz : IsRow (fun _ => True) wz (.slice (some ⟨wa.heap.size, 0, none⟩) 32 32) (bys zeros32) := by rw [← hwz]; exact IsRow.ofBlock (S := fun _ => True) (heap_alloc_new _ _) trivial 32 32 (by simp [bys, zeros32])
 clear hwz
 refine hK.out _ _ (HK.out _ mD) (fun hHeld => ?_)
 clear hK K
 (try simp only [Act.put, pT])
 refine rH 28 (fun K hK => ?_)
 go_simp
 refine (HHD.out _ ?_).mono ?_
 ·exact mD
 rintro e wb ⟨pb, cb, rfl, hvb, hmb⟩
 have hmb' : Mod nil w4 wb := (show Mod nil w4 _ from mD).thenNil hmb
 have hzz := hz.modNil ((show Mod nil wz _ from mD).thenNil hmb)
 refine hK.out _ _ (HK.out _ mD) (fun hHeld => ?_)
 clear hK K
 (try simp only [Act.put, pT])
 refine rH 30 (fun K hK => ?_)
 go_simp
 refine (refBytesW (fun _ => True) (fun _ => True) _ _ zeros32 zeros32 _ ?_ ?_).mono ?_
 ·first | exact (hvv.mono (fun _ _ _ => trivial)).modNil mD | exact (hvb.row.mono (fun _ _ _ => trivial)).modNil mD
 ·first | exact hzz.modNil mD | exact hz.modNil mD
 rw [decide_eq_true rfl]
 rintro e wy ⟨rfl, rfl⟩
 refine hK.out _ _ (HK.out _ mD) (fun hHeld => ?_)
 clear hK K
 (try simp only [Act.put, pT])
 refine sH 31 ?_
 refine sH 32 ?_
 refine wpAnyH_done (by kernel_rfl) ?_ _
 go_wp2_with fail
 exact HEND.out _ mD
end Go.Proofs.YtdfahddpkkeldaaGreat

/- Package journal: lays. -/
import Derived.LoopTactic
import Derived.Test.YtdfahddpkkeldaaGreatJournalC
import Derived.Test.YtdfahddpkkeldaaGreatCurs
import Derived.Test.YtdfahddpkkeldaaGreatCut
import Derived.Test.YtdfahddpkkeldaaGreatJPlain
import Derived.Test.YtdfahddpkkeldaaGreatShort
set_option linter.unusedSimpArgs false
set_option linter.unusedVariables false
namespace Go.Proofs.YtdfahddpkkeldaaGreat
open Go.RowKit
theorem IsDisk.here {w : World} {b bl bm : Nat} {C : Nat → Prop} {d : DS} (h : IsDisk w b bl bm C d) : IsDisk w b bl bm (fun k => C k ∧ k < w.heap.size) d := by
 obtain ⟨vl, h1, h2, h3⟩ := h.lasts
 obtain ⟨vm, h4, h5⟩ := h.pend
 exact ⟨h.obj, ⟨vl, h1, h2, fun i hi hi' => ⟨(h3 i hi hi').1.here, (h3 i hi hi').2⟩⟩, ⟨vm, h4, h5.1, fun i hi hi' => ⟨(h5.2 i hi hi').1, (h5.2 i hi hi').2.1.here, (h5.2 i hi hi').2.2⟩⟩, h.keys, h.room, h.fz, h.ne1, h.ne2, h.ne3, fun x => h.c1 x.1, fun x => h.c2 x.1, fun x => h.c3 x.1⟩
def sectAt (b : List UInt8) (k : Nat) : List UInt8 := (b.drop (64 * k)).take 64
/-- the sectors behind the first, from number k on -/
def DS.tails (d : DS) (base : Nat) (b : List UInt8) : Nat → Nat → DS × Bool
 | 0, _ => (d, true)
 | f + 1, k => if (d.write ((base + k : Nat) : Int) (sectAt b k)).2 = 0 then DS.tails (d.write ((base + k : Nat) : Int) (sectAt b k)).1 base b f (k + 1) else ((d.write ((base + k : Nat) : Int) (sectAt b k)).1, false)
/-- behind the tails: the sync between, the first sector, the last sync -/
def DS.heads (d : DS) (base : Nat) (b : List UInt8) (m : Nat) : DS × Bool :=
 if 1 < m ∧ d.sync.2 ≠ 0 then (d.sync.1, false) else
 if ((if 1 < m then d.sync.1 else d).write (base : Int) (sectAt b 0)).2 ≠ 0 then (((if 1 < m then d.sync.1 else d).write (base : Int) (sectAt b 0)).1, false) else
 ((((if 1 < m then d.sync.1 else d).write (base : Int) (sectAt b 0)).1).sync.1, decide ((((if 1 < m then d.sync.1 else d).write (base : Int) (sectAt b 0)).1).sync.2 = 0))
def DS.lays (d : DS) (base : Nat) (b : List UInt8) (m : Nat) : DS × Bool :=
 if (d.tails base b (m - 1) 1).2 = true then (d.tails base b (m - 1) 1).1.heads base b m else ((d.tails base b (m - 1) 1).1, false)
theorem DS.write_len (d : DS) (i : Int) (l : List UInt8) : (d.write i l).1.lasts.length = d.lasts.length := by
  unfold DS.write
  have := d.burn_lasts.1
  repeat' split
  all_goals (simp only; try rw [this])
theorem DS.sync_len (d : DS) : d.sync.1.lasts.length = d.lasts.length := by
  unfold DS.sync DS.synced
  have := d.burn_lasts.1
  repeat' split
  all_goals (first | rfl | exact congrArg List.length this | simp)
theorem DS.sync_err (d : DS) : d.sync.2 = 0 ∨ d.sync.2 = 13 := by
 unfold DS.sync
 repeat' split
 all_goals simp
theorem DS.tails_go (d : DS) (base : Nat) (b : List UInt8) (f k : Nat) (h : (d.write ((base + k : Nat) : Int) (sectAt b k)).2 = 0) : d.tails base b (f + 1) k = (d.write ((base + k : Nat) : Int) (sectAt b k)).1.tails base b f (k + 1) := by rw [DS.tails]; exact if_pos h
theorem DS.tails_stop (d : DS) (base : Nat) (b : List UInt8) (f k : Nat) (h : ¬ (d.write ((base + k : Nat) : Int) (sectAt b k)).2 = 0) : d.tails base b (f + 1) k = ((d.write ((base + k : Nat) : Int) (sectAt b k)).1, false) := by rw [DS.tails]; exact if_neg h
end Go.Proofs.YtdfahddpkkeldaaGreat

/- Package journal, plain: what lasts on a disk without a fuse. -/
namespace Go.Proofs.YtdfahddpkkeldaaGreat
open Go.RowKit
/-- a disk that is not down and has no fuse; n sectors -/
structure Good (d : DS) (n : Nat) : Prop where
 up : d.down = false
 free : d.fuse = -1
 len : d.lasts.length = n
 all64 : ∀ x ∈ d.curs, x.length = 64
theorem Good.clen {d : DS} {n : Nat} (h : Good d n) : d.curs.length = n := by rw [curs_length, h.len]
theorem Good.burn {d : DS} {n : Nat} (h : Good d n) : d.burn = d ∧ d.holds = true := by
 unfold DS.burn DS.holds
 rw [h.free]
 exact ⟨rfl, rfl⟩
theorem Good.write {d : DS} {n : Nat} (h : Good d n) (i : Nat) (hi : i < n) (l : List UInt8) (hl : l.length = 64) :
  (d.write ((i : Nat) : Int) l).2 = 0 ∧ Good (d.write ((i : Nat) : Int) l).1 n ∧ (d.write ((i : Nat) : Int) l).1.curs = d.curs.set i l := by
 have hs : d.sector (i : Int) = 0 := by unfold DS.sector; rw [h.up, h.len]; simp; omega
 have hw : d.write ((i : Nat) : Int) l = ({ d with pend := bput d.pend (i : Int) l }, 0) := by
  unfold DS.write
  rw [hs, h.burn.1, h.burn.2]
  simp [hl]
 rw [hw]
 refine ⟨rfl, ⟨h.up, h.free, h.len, ?_⟩, curs_bput d i l⟩
 rw [curs_bput d i l]
 intro x hx
 rcases List.mem_or_eq_of_mem_set hx with h1 | h1
 ·exact h.all64 x h1
 ·rw [h1, hl]
theorem Good.sync {d : DS} {n : Nat} (h : Good d n) : d.sync.2 = 0 ∧ Good d.sync.1 n ∧ d.sync.1.curs = d.curs ∧ d.sync.1.pend = [] := by
 have hw : d.sync = ({ d with lasts := d.curs, pend := [] }, 0) := by
  unfold DS.sync
  rw [h.up, h.burn.1, h.burn.2, synced_curs]
  simp [h.up]
 have hc : DS.curs { d with lasts := d.curs, pend := [] } = d.curs := curs_none _ _ _
 rw [hw]
 exact ⟨rfl, ⟨h.up, h.free, by simp only; exact h.clen, by rw [hc]; exact h.all64⟩, hc, rfl⟩
theorem Good.tails {n base : Nat} {b : List UInt8} : ∀ (f k : Nat) {d : DS}, Good d n → base + k + f ≤ n → (∀ j, k ≤ j → j < k + f → (sectAt b j).length = 64) →
  (d.tails base b f k).2 = true ∧ Good (d.tails base b f k).1 n ∧ ∀ j, (d.tails base b f k).1.curs[j]? = if base + k ≤ j ∧ j < base + k + f then some (sectAt b (j - base)) else d.curs[j]?
 | 0, k, d, h, _, _ => ⟨rfl, h, fun j => by rw [if_neg (by omega)]; rfl⟩
 | f + 1, k, d, h, hn, hb => by
  obtain ⟨h1, h2, h3⟩ := h.write (base + k) (by omega) (sectAt b k) (hb k (by omega) (by omega))
  rw [d.tails_go base b f k h1]
  obtain ⟨h4, h5, h6⟩ := Good.tails (base := base) (b := b) f (k + 1) h2 (by omega) (fun j a c => hb j (by omega) (by omega))
  refine ⟨h4, h5, fun j => ?_⟩
  rw [h6 j, h3, List.getElem?_set, h.clen]
  by_cases hj : j = base + k
  ·subst hj
   rw [if_neg (by omega), if_pos rfl, if_pos (by omega), if_pos (by omega)]
   congr 2; omega
  ·by_cases hj2 : base + (k + 1) ≤ j ∧ j < base + (k + 1) + f
   ·rw [if_pos hj2, if_pos (by omega)]
   ·rw [if_neg hj2, if_neg (fun e => hj e.symm), if_neg (by omega)]
theorem Good.heads {n base m : Nat} {b : List UInt8} {d : DS} (h : Good d n) (hb : base < n) (h0 : (sectAt b 0).length = 64) :
  (d.heads base b m).2 = true ∧ Good (d.heads base b m).1 n ∧ (d.heads base b m).1.pend = [] ∧ (d.heads base b m).1.curs = d.curs.set base (sectAt b 0) := by
 obtain ⟨s1, s2, s3, s4⟩ := h.sync
 have hd1 : Good (if 1 < m then d.sync.1 else d) n ∧ (if 1 < m then d.sync.1 else d).curs = d.curs := by
  by_cases hm : 1 < m
  ·rw [if_pos hm]; exact ⟨s2, s3⟩
  ·rw [if_neg hm]; exact ⟨h, rfl⟩
 unfold DS.heads
 rw [if_neg (fun e => e.2 s1)]
 revert hd1
 generalize (if 1 < m then d.sync.1 else d) = d1
 rintro ⟨g1, g2⟩
 obtain ⟨w1, w2, w3⟩ := g1.write base hb (sectAt b 0) h0
 obtain ⟨t1, t2, t3, t4⟩ := w2.sync
 rw [if_neg (fun e => e w1)]
 exact ⟨by simp only; exact decide_eq_true t1, t2, t4, by rw [t3, w3, g2]⟩
/-- laying a frame's bytes on a disk without a fuse -/
theorem Good.lays {n base m : Nat} {b : List UInt8} {d : DS} (h : Good d n) (hm : 1 ≤ m) (hb : base + m ≤ n) (hl : b.length = 64 * m) :
  (d.lays base b m).2 = true ∧ Good (d.lays base b m).1 n ∧ (d.lays base b m).1.pend = [] ∧ ∀ j, (d.lays base b m).1.curs[j]? = if base ≤ j ∧ j < base + m then some (sectAt b (j - base)) else d.curs[j]? := by
 have h64 : ∀ j, j < m → (sectAt b j).length = 64 := fun j hj => by unfold sectAt; rw [List.length_take, List.length_drop, hl]; omega
 obtain ⟨t1, t2, t3⟩ := Good.tails (base := base) (b := b) (m - 1) 1 h (by omega) (fun j _ hj => h64 j (by omega))
 unfold DS.lays
 rw [if_pos t1]
 obtain ⟨u1, u2, u3, u4⟩ := t2.heads (m := m) (by omega : base < n) (h64 0 (by omega))
 refine ⟨u1, u2, u3, fun j => ?_⟩
 rw [u4, List.getElem?_set, t2.clen, t3 j]
 by_cases hj : j = base
 ·subst hj
  rw [if_pos rfl, if_pos (by omega), if_pos (by omega), Nat.sub_self]
 ·rw [if_neg (fun e => hj e.symm)]
  by_cases hj2 : base + 1 ≤ j ∧ j < base + 1 + (m - 1)
  ·rw [if_pos hj2, if_pos (by omega)]
  ·rw [if_neg hj2, if_neg (by omega)]
/-- the bytes of some sectors -/
def secs (c : List (List UInt8)) (base k : Nat) : List UInt8 := ((c.drop base).take k).flatten
theorem secs_split (c : List (List UInt8)) (base a k : Nat) : secs c base (a + k) = secs c base a ++ secs c (base + a) k := by
 unfold secs
 rw [List.take_add, List.flatten_append, List.drop_drop]
theorem secs_congr {c c' : List (List UInt8)} {base k : Nat} (h : ∀ j, base ≤ j → j < base + k → c'[j]? = c[j]?) : secs c' base k = secs c base k := by
 unfold secs
 congr 1
 apply List.ext_getElem?
 intro i
 rw [List.getElem?_take, List.getElem?_take, List.getElem?_drop, List.getElem?_drop]
 split
 ·exact h _ (by omega) (by omega)
 ·rfl
theorem secs_length {c : List (List UInt8)} (h : ∀ x ∈ c, x.length = 64) (base : Nat) : ∀ k, base + k ≤ c.length → (secs c base k).length = 64 * k
 | 0, _ => by simp [secs]
 | k + 1, hk => by
  rw [secs_split, List.length_append, secs_length h base k (by omega)]
  have e : secs c (base + k) 1 = c[base + k]'(by omega) := by
   unfold secs
   rw [List.drop_eq_getElem_cons (by omega), List.take_succ_cons, List.take_zero, List.flatten_cons, List.flatten_nil, List.append_nil]
  rw [e, h _ (List.getElem_mem _)]
  omega
theorem secs_drop {c : List (List UInt8)} (h : ∀ x ∈ c, x.length = 64) (base k p : Nat) (hk : base + k ≤ c.length) (hp : p ≤ k) : (secs c base k).drop (64 * p) = secs c (base + p) (k - p) := by
 obtain ⟨r, rfl⟩ : ∃ r, k = p + r := ⟨k - p, by omega⟩
 rw [secs_split, ← secs_length h base p (by omega), List.drop_left, show p + r - p = r by omega]
theorem secs_one (c : List (List UInt8)) (base : Nat) (x : List UInt8) (h : c[base]? = some x) : secs c base 1 = x := by
 have hb : base < c.length := by
  by_cases hb : base < c.length
  ·exact hb
  ·rw [List.getElem?_eq_none (by omega)] at h; cases h
 unfold secs
 rw [List.drop_eq_getElem_cons hb, List.take_succ_cons, List.take_zero, List.flatten_cons, List.flatten_nil, List.append_nil]
 rw [List.getElem?_eq_getElem hb] at h
 simpa using h
theorem secs_chunks (c : List (List UInt8)) (b : List UInt8) (base : Nat) : ∀ m, (∀ j, j < m → c[base + j]? = some (sectAt b j)) → secs c base m = b.take (64 * m)
 | 0, _ => by simp [secs]
 | m + 1, h => by
  rw [secs_split, secs_chunks c b base m (fun j hj => h j (by omega)), secs_one c (base + m) _ (h m (by omega)), sectAt, show 64 * (m + 1) = 64 * m + 64 by omega, List.take_add]
theorem sectorsAt_secs {d : DS} {n : Nat} (h : Good d n) (base : Nat) : ∀ k, base + k ≤ n → sectorsAt d base k = secs d.curs base k
 | 0, _ => by simp [sectorsAt, secs]
 | k + 1, hk => by
  rw [sectorsAt, sectorsAt_secs h base k (by omega), secs_split]
  congr 1
  have hs : d.sector ((base + k : Nat) : Int) = 0 := by unfold DS.sector; rw [h.up, h.len]; simp; omega
  have hb : base + k < d.curs.length := by rw [h.clen]; omega
  rw [read_cur, if_neg (fun e => e hs), secs_one d.curs (base + k) _ (List.getElem?_eq_getElem hb)]
  simp only [Int.toNat_natCast, List.getD_eq_getElem?_getD, List.getElem?_eq_getElem hb, Option.getD_some]
end Go.Proofs.YtdfahddpkkeldaaGreat

/- Package journal: lays. (Printed by wip/tools/gen_jlaysb.py.) -/
namespace Go.Proofs.YtdfahddpkkeldaaGreat
open Go.RowKit
theorem IsJ.downed {S T : Nat → Prop} {w w' : World} {jb tb db : Nat} {s : JS} (h : IsJ S w jb tb db s) (m : Mod T w w') (hs : ∀ k, k < w.heap.size → S k → ¬ T k) : IsJ S (w'.setCell ⟨jb, 2, none⟩ (.bool true)) jb tb db { s with down := true } := by
 obtain ⟨pp, cp, pr, cr, h1, h2, h3⟩ := (h.mod m hs).ex
 have g1 := heap_setCell_same h1 (.bool true) (off := 2)
 simp only [List.setIfInBounds_toArray, List.set_cons_succ, List.set_cons_zero] at g1
 have hm : Mod (· = jb) w' (w'.setCell ⟨jb, 2, none⟩ (.bool true)) := (Mod.refl _ _).setCell _ _ (fun _ => rfl)
 exact ⟨h.own, pp, cp, pr, cr, g1, h2.mod hm (fun k _ h e => h.2.1 e), h3.mod hm (fun k _ h e => h.2 e)⟩
set_option maxRecDepth 100000 in
set_option maxHeartbeats 16000000 in
theorem jLays (S C T : Nat → Prop) (jb tb db bl bm half at_ base m : Nat) (s : JS) (d : DS) (p : Option Addr) (len cap : Nat) (b : List UInt8) (w : World) (hj : IsJ S w jb tb db s) (hd : IsDisk w db bl bm C d) (hrow : IsRow T w (.slice p len cap) (bys b))
    (hT : ∀ k, T k → k < w.heap.size ∧ k ≠ jb ∧ k ≠ db ∧ k ≠ bl ∧ k ≠ bm) (hS : ∀ k, S k → ¬ foot db bl bm C k) (hlen : len = 64 * m) (hm1 : 1 ≤ m) (hm2 : m ≤ 1000) (hh : half ≤ 1) (ha : at_ ≤ 8192) (hbase : half * (d.lasts.length / 2) + at_ = base) (hcap : len ≤ cap) (hcm : cap ≤ maxLen) :
    Calls Tryz.prog 67 #[.pointer (some ⟨jb, 0, none⟩), .int .i64 half, .int .i64 at_, .slice p len cap] w fun e w' => ∃ C', e = .returned (.int .i64 (if (d.lays base b m).2 then 0 else 13)) ∧ IsDisk w' db bl bm C' (d.lays base b m).1 ∧ (∀ k, C' k → C k ∨ w.heap.size ≤ k) ∧ IsJ S w' jb tb db { s with down := s.down || !(d.lays base b m).2 } ∧ Mod (fun k => (k = db ∨ k = bl ∨ k = bm) ∨ k = jb) w w' := by
  refine (?_ : ∀ Post : Ending → World → Prop, Hid (∀ e w', (∃ C', e = .returned (.int .i64 (if (d.lays base b m).2 then 0 else 13)) ∧ IsDisk w' db bl bm C' (d.lays base b m).1 ∧ (∀ k, C' k → C k ∨ w.heap.size ≤ k) ∧ IsJ S w' jb tb db { s with down := s.down || !(d.lays base b m).2 } ∧ Mod (fun k => (k = db ∨ k = bl ∨ k = bm) ∨ k = jb) w w') → Post e w') → Calls Tryz.prog 67 #[.pointer (some ⟨jb, 0, none⟩), .int .i64 half, .int .i64 at_, .slice p len cap] w Post) _ (Lib.hid (fun _ _ h => h))
  intro Post HPOST
  have hbl : b.length = len := by
    obtain ⟨_, _, h, _⟩ := hrow
    simp only [Value.slice.injEq, bys_length] at h
    exact h.2.1.symm
  have hj3 : ¬ (jb = db ∨ jb = bl ∨ jb = bm) := fun e => hS jb hj.own (by rcases e with e | e | e; exact .inl e; exact .inr (.inl e); exact .inr (.inr (.inl e)))
  obtain ⟨pp, cp, pr, cr, hb0, -, -⟩ := hj.ex
  have c0 := cell_of hb0 1
  have z0 := free_of hb0 2
  simp only [List.getElem?_toArray, List.getElem?_cons_zero, List.getElem?_cons_succ] at c0
  have hjw := heap_lt hb0
  obtain ⟨N, hN⟩ : ∃ N, d.lasts.length / 2 = N := ⟨_, rfl⟩
  obtain ⟨LL, hLL⟩ : ∃ LL, d.lasts.length = LL := ⟨_, rfl⟩
  have hNb : N ≤ 4096 := by have := hd.room; omega
  obtain ⟨Z, hZ⟩ : ∃ Z, half * N = Z := ⟨_, rfl⟩
  have hZb : Z ≤ 4096 := by rcases (show half = 0 ∨ half = 1 by omega) with rfl | rfl <;> omega
  rw [hN, hZ] at hbase
  have hmul : IntKind.i64.wrap ((half : Int) * (N : Int)) = (Z : Int) := by
    rw [show (half : Int) * (N : Int) = ((half * N : Nat) : Int) by simp, hZ, IntKind.wrap_i64]; omega
  have hadd : IntKind.i64.wrap ((Z : Int) + (at_ : Int)) = (base : Int) := by rw [IntKind.wrap_i64]; omega
  have HB0 := Lib.hid hb0
  have HLEN := Lib.hid hlen
  have HSZ : Hid (∀ W Cx dx, IsDisk W db bl bm Cx dx → dx.lasts.length = LL → W.cell? ⟨jb, 1, none⟩ = some (.pointer (some ⟨db, 0, none⟩)) → Calls Tryz.prog 83 #[.pointer (some ⟨jb, 0, none⟩)] W fun e w' => e = .returned (.int .i64 N) ∧ W = w') := Lib.hid (fun W Cx dx h hl hc => by
    rw [← hN, hLL, ← hl]
    exact jSize jb db bl bm Cx dx W hc h)
  have HBASE := Lib.hid hbase
  have HJ := Lib.hid hj
  have HD := Lib.hid hd
  have HROW := Lib.hid hrow
  have HTT := Lib.hid hT
  have HLL := Lib.hid hLL
  have HBL := Lib.hid hbl
  have hmb : ((base : Int) + (0 : Int)) = (base : Int) := by omega
  have hbb : base ≤ 12288 := by omega
  have HDOWN : Hid (∀ (CX : Nat → Prop) (DX : DS) (W : World), d.lays base b m = (DX, false) → IsDisk W db bl bm CX DX → (∀ k, CX k → C k ∨ w.heap.size ≤ k) → Mod (fun k => k = db ∨ k = bl ∨ k = bm) w W → Post (.returned (.int .i64 13)) (W.setCell ⟨jb, 2, none⟩ (.bool true))) := Lib.hid (fun CX DX W hl hdx hcx hmx => by
    have hs : Mod (· = jb) W (W.setCell ⟨jb, 2, none⟩ (.bool true)) := (Mod.refl _ _).setCell _ _ (fun _ => rfl)
    have hjc : ¬ CX jb := fun h => by rcases hcx jb h with h | h; exact hS jb hj.own (.inr (.inr (.inr h))); omega
    refine HPOST.out _ _ ⟨CX, by rw [hl]; rfl, ?_, hcx, ?_, (hmx.mono (fun _ _ h => .inl h)).trans hs (fun _ _ h => .inr h)⟩
    · rw [hl]
      exact hdx.mod hs (fun k _ h e => by
        subst e
        rcases h with h | h | h | h
        · exact hj3 (.inl h)
        · exact hj3 (.inr (.inl h))
        · exact hj3 (.inr (.inr h))
        · exact hjc h)
    · rw [hl]
      have := HJ.out.downed hmx (fun k _ h e => hS k h (by rcases e with e | e | e; exact .inl e; exact .inr (.inl e); exact .inr (.inr (.inl e))))
      simpa using this)
  have HGOOD : Hid (∀ (CX : Nat → Prop) (DX : DS) (W : World), d.lays base b m = (DX, true) → IsDisk W db bl bm CX DX → (∀ k, CX k → C k ∨ w.heap.size ≤ k) → Mod (fun k => k = db ∨ k = bl ∨ k = bm) w W → Post (.returned (.int .i64 0)) W) := Lib.hid (fun CX DX W hl hdx hcx hmx => by
    refine HPOST.out _ _ ⟨CX, by rw [hl]; rfl, by rw [hl]; exact hdx, hcx, ?_, hmx.mono (fun _ _ h => .inl h)⟩
    rw [hl]
    have := HJ.out.mod hmx (fun k _ h e => hS k h (by rcases e with e | e | e; exact .inl e; exact .inr (.inl e); exact .inr (.inr (.inl e))))
    simpa using this)
  have hlb : 64 ≤ len ∧ len ≤ 64000 := by omega
  obtain ⟨hlb1, hlb2⟩ := hlb
  clear hj hd hrow hT hS hLL hbl hbase hlen hN hZ hh ha
  clear hb0
  go_enter Tryz.func67, Tryz.ntmps67
  go_wp2_with fail
  go_loopw [9] (fun v9 wr => ∃ (k X : Nat) (C' : Nat → Prop) (d' : DS), 1 ≤ k ∧ k ≤ m ∧ v9 = .int .i64 X ∧ X ≤ len ∧ Hid (X = 64 * k) ∧ Hid (d.tails base b (m - 1) 1 = d'.tails base b (m - k) k) ∧ Hid (IsDisk wr db bl bm C' d') ∧ Hid (∀ j, C' j → C j ∨ w.heap.size ≤ j) ∧ Hid (Mod (fun k => k = db ∨ k = bl ∨ k = bm) w wr) ∧ Hid (d'.lasts.length = LL)) (fun v _ => m - (intOf v).toNat / 64)
  case atStart => exact ⟨1, 64, C, d, Nat.le_refl _, hm1, rfl, hlb1, Lib.hid rfl, Lib.hid rfl, HD, Lib.hid (fun j h => .inl h), Lib.hid (Mod.refl _ _), HLL⟩
  case round =>
    obtain ⟨k, X, C', d', hk1, hkm, rfl, hXl, HX, HTL, HDR, HCR, HMR, HLR⟩ := hrel
    have c1 := cell_kept c0 HMR.out hjw hj3
    have hjl : jb < wr.heap.size := World.block_lt_of_cell? _ _ c1
    by_cases hlt : X < len
    · have hkm' : k < m := by have := HX.out; have := HLEN.out; omega
      have hX64 : X + 64 ≤ len := by have := HX.out; have := HLEN.out; omega
      have hXe := HX.out
      have hdiv : (X : Int) / 64 = (k : Int) := by omega
      have hkw : IntKind.i64.wrap (k : Int) = (k : Int) := by rw [IntKind.wrap_i64]; omega
      have hX6 : IntKind.i64.wrap ((X : Int) + 64) = (X : Int) + 64 := by rw [IntKind.wrap_i64]; omega
      have hbk : IntKind.i64.wrap ((base : Int) + (k : Int)) = (base : Int) + (k : Int) := by rw [IntKind.wrap_i64]; omega
      obtain ⟨p2, hsl, hrowsl⟩ := slice_cut T p len cap X (X + 64) b w HROW.out (by omega) hX64 hcap
      rw [show X + 64 - X = 64 by omega] at hsl hrowsl
      rw [show ((X + 64 : Nat) : Int) = (X : Int) + 64 by simp] at hsl
      have hrw : IsRow T wr (.slice p2 64 (cap - X)) (bys (sectAt b k)) := by
        have h := hrowsl wr (HROW.out.mod HMR.out (fun j _ h e => by have := HTT.out j h; omega))
        unfold sectAt
        rw [← hXe]
        exact h
      obtain ⟨r, hr⟩ : ∃ r, (d'.write ((base + k : Nat) : Int) (sectAt b k)).2 = r := ⟨_, rfl⟩
      obtain ⟨d2, hd2⟩ : ∃ d2, (d'.write ((base + k : Nat) : Int) (sectAt b k)).1 = d2 := ⟨_, rfl⟩
      have hlen2 : d2.lasts.length = LL := by rw [← hd2, DS.write_len, HLR.out]
      have hsl64 : (sectAt b k).length ≤ 9223372036854775807 := by unfold sectAt; rw [List.length_take]; omega
      have HW : Hid (∀ W, Mod nil wr W → Calls Tryz.prog 17 #[.pointer (some ⟨db, 0, none⟩), .int .i64 ((base : Int) + (k : Int)), .slice p2 64 (cap - X)] W fun e w' => ∃ Cb, e = .returned (.int .i64 r) ∧ IsDisk w' db bl bm Cb d2 ∧ (∀ j, Cb j → C j ∨ w.heap.size ≤ j) ∧ Mod (fun k => k = db ∨ k = bl ∨ k = bm) wr w') := Lib.hid (fun W hmW => by
        rw [show (base : Int) + (k : Int) = ((base + k : Nat) : Int) by simp, ← hr, ← hd2]
        refine (diskWrite db bl bm C' T d' ((base + k : Nat) : Int) _ (sectAt b k) W (HDR.out.modNil hmW) (hrw.modNil hmW) (fun h => (HTT.out db h).2.2.1 rfl) hsl64).mono ?_
        rintro e w' ⟨Cb, rfl, h1, h2, h3⟩
        exact ⟨Cb, rfl, h1, fun j h => (h2 j h).elim (HCR.out j) (fun h => .inr (by have := HMR.out.size; have := hmW.size; omega)), hmW.ofNil.trans h3 (fun j _ h => h.elim .inl (fun h => .inr (.inr h)))⟩)
      have HSZ1 : Hid (∀ W, Mod nil wr W → Calls Tryz.prog 83 #[.pointer (some ⟨jb, 0, none⟩)] W fun e w' => e = .returned (.int .i64 N) ∧ W = w') := Lib.hid (fun W hmW => HSZ.out W C' d' (HDR.out.modNil hmW) HLR.out (cell_kept c1 hmW hjl (not_nil _)))
      have HR := Lib.hid hr
      have HD2 := Lib.hid hd2
      clear hr hd2 hrw hrowsl hXe hsl64 c0
      go_upto_region 4 with (fail)
      go_region_held3 (fun w' => w'.cell? ⟨jb, 1, none⟩ = some (.pointer (some ⟨db, 0, none⟩))) (first | exact cb | exact c1) (first
        | (go_at_call 17; refine (HW.out _ ?_).mono ?_; (repeat (first | exact Mod.refl _ _ | refine Mod.drew ?_)); rintro e wb ⟨Cb, rfl, hdb, hCb, hmb⟩; have cb := cell_kept c1 hmb hjl hj3)
        | (go_at_call 83; refine (HSZ1.out _ ?_).mono ?_; (repeat (first | exact Mod.refl _ _ | refine Mod.drew ?_)); rintro e w' ⟨rfl, rfl⟩))
      have hmwb : Mod (fun k => k = db ∨ k = bl ∨ k = bm) w wb := HMR.out.trans hmb (fun _ _ h => h)
      have HMB := Lib.hid hmwb
      have HDB := Lib.hid hdb
      have HCB := Lib.hid hCb
      have hf : m - k = (m - (k + 1)) + 1 := by omega
      have HF := Lib.hid hf
      clear hmb hmwb hdb hCb hsl hmul hadd hdiv hkw hbk HW HSZ1 c1 hf
      by_cases hr0 : r = 0
      · subst hr0
        have HT2 : Hid (d.tails base b (m - 1) 1 = d2.tails base b (m - (k + 1)) (k + 1)) := Lib.hid (by rw [HTL.out, HF.out, DS.tails_go _ _ _ _ _ HR.out, HD2.out])
        clear cb
        go_wp2_with fail
        exact ⟨⟨k + 1, X + 64, Cb, d2, by omega, by omega, by go_num, hX64, Lib.hid (by have := HX.out; omega), HT2, HDB, HCB, HMB, Lib.hid hlen2⟩, by have := HX.out; simp [intOf]; omega⟩
      · have hrn : ((r : Int) != 0) = true := by simpa using hr0
        have HLD : Hid (d.lays base b m = (d2, false)) := Lib.hid (by
          have h1 : d.tails base b (m - 1) 1 = (d2, false) := by rw [HTL.out, HF.out, DS.tails_stop _ _ _ _ _ (by rw [HR.out]; exact hr0), HD2.out]
          unfold DS.lays
          rw [h1]
          rfl)
        have hbj := (HMB.out.block jb hjw hj3).trans HB0.out
        have y2 := cell_of hbj 2
        have yz := free_of hbj 2
        simp only [List.getElem?_toArray, List.getElem?_cons_zero, List.getElem?_cons_succ] at y2
        clear hbj cb hr0 hX6
        go_wp2_with fail
        exact HDOWN.out Cb d2 wb HLD.out HDB.out HCB.out HMB.out
    · have hkm2 : k = m := by have := HX.out; have := HLEN.out; omega
      have hXl2 : X = len := by omega
      subst hkm2 hXl2
      have hL : d.lays base b k = d'.heads base b k := by
        unfold DS.lays
        rw [HTL.out, Nat.sub_self]
        rfl
      have HL := Lib.hid hL
      obtain ⟨hsl2, hrow2⟩ := slice_front T p X cap 64 b w HROW.out (by omega) hlb1 hcap
      rw [show ((64 : Nat) : Int) = (64 : Int) from rfl] at hsl2
      have hrw : IsRow T wr (.slice p 64 cap) (bys (sectAt b 0)) := by
        unfold sectAt
        rw [Nat.mul_zero, List.drop_zero]
        exact hrow2 wr (HROW.out.mod HMR.out (fun j _ h e => by have := HTT.out j h; omega))
      have HRW := Lib.hid hrw
      have h64 : (sectAt b 0).length ≤ 9223372036854775807 := by unfold sectAt; rw [List.length_take]; omega
      have HTB : Hid (¬ T db) := Lib.hid (fun h => (HTT.out db h).2.2.1 rfl)
      have HTD : Hid (∀ j, T j → ¬ (j = db ∨ j = bl ∨ j = bm)) := Lib.hid (fun j h e => by have := HTT.out j h; omega)
      have hsz := HMR.out.size
      clear hrow2 hrw hL c0 HTL
      by_cases h1 : k = 1
      · have hgt : decide ((64 : Int) < (X : Int)) = false := by have := HLEN.out; subst h1; simp; omega
        have hgt' : ¬ ((64 : Int) < (X : Int)) := by simpa using hgt
        have HC1 : Hid (¬ (1 < k ∧ d'.sync.2 ≠ 0)) := Lib.hid (fun h => by omega)
        obtain ⟨d1, hd1⟩ : ∃ d1, (if 1 < k then d'.sync.1 else d') = d1 := ⟨_, rfl⟩
        have HD1 := Lib.hid hd1
        have HLN1 : Hid (d1.lasts.length = LL) := Lib.hid (by rw [← hd1, if_neg (by omega)]; exact HLR.out)
        have hda : IsDisk wr db bl bm C' d1 := by rw [← hd1, if_neg (by omega)]; exact HDR.out
        have hma : Mod (fun k => k = db ∨ k = bl ∨ k = bm) wr wr := Mod.refl _ _
        have ca := c1
        have hja := hjl
        clear hd1
        obtain ⟨r2, hr2⟩ : ∃ r, (d1.write (base : Int) (sectAt b 0)).2 = r := ⟨_, rfl⟩
        obtain ⟨d2, hd2⟩ : ∃ d2, (d1.write (base : Int) (sectAt b 0)).1 = d2 := ⟨_, rfl⟩
        have hlen2 : d2.lasts.length = LL := by rw [← hd2, DS.write_len, HLN1.out]
        have HW1 : Hid (∀ wa W, IsDisk wa db bl bm C' d1 → Mod (fun k => k = db ∨ k = bl ∨ k = bm) wr wa → Mod nil wa W → Calls Tryz.prog 17 #[.pointer (some ⟨db, 0, none⟩), .int .i64 base, .slice p 64 cap] W fun e w' => ∃ Cb, e = .returned (.int .i64 r2) ∧ IsDisk w' db bl bm Cb d2 ∧ (∀ j, Cb j → C j ∨ w.heap.size ≤ j) ∧ Mod (fun k => k = db ∨ k = bl ∨ k = bm) wa w') := Lib.hid (fun wa W hda hma hmW => by
          rw [← hr2, ← hd2]
          refine (diskWrite db bl bm C' T d1 (base : Int) _ (sectAt b 0) W (hda.modNil hmW) ((HRW.out.mod hma (fun j _ h => HTD.out j h)).modNil hmW) HTB.out h64).mono ?_
          rintro e w' ⟨Cb, rfl, h1, h2, h3⟩
          exact ⟨Cb, rfl, h1, fun j h => (h2 j h).elim (HCR.out j) (fun h => .inr (by have := hma.size; have := hmW.size; omega)), hmW.ofNil.trans h3 (fun j _ h => h.elim .inl (fun h => .inr (.inr h)))⟩)
        have HSZ1 : Hid (∀ wa W, IsDisk wa db bl bm C' d1 → wa.cell? ⟨jb, 1, none⟩ = some (.pointer (some ⟨db, 0, none⟩)) → Mod nil wa W → Calls Tryz.prog 83 #[.pointer (some ⟨jb, 0, none⟩)] W fun e w' => e = .returned (.int .i64 N) ∧ W = w') := Lib.hid (fun wa W h hc hmW => HSZ.out W C' d1 (h.modNil hmW) HLN1.out (cell_kept hc hmW (World.block_lt_of_cell? _ _ hc) (not_nil _)))
        have HR2 := Lib.hid hr2
        have HD2 := Lib.hid hd2
        clear hr2 hd2
        by_cases hw0 : r2 = 0
        · subst hw0
          obtain ⟨r3, hr3⟩ : ∃ r, d2.sync.2 = r := ⟨_, rfl⟩
          obtain ⟨d3, hd3⟩ : ∃ d3, d2.sync.1 = d3 := ⟨_, rfl⟩
          have HS2 : Hid (∀ wb W Cx, IsDisk wb db bl bm Cx d2 → Mod nil wb W → Calls Tryz.prog 96 #[.pointer (some ⟨db, 0, none⟩)] W fun e w' => e = .returned (.int .i64 r3) ∧ IsDisk w' db bl bm Cx d3 ∧ Mod (fun k => k = db ∨ k = bl ∨ k = bm) wb w') := Lib.hid (fun wb W Cx h hmW => by
            rw [← hr3, ← hd3]
            refine (diskSync db bl bm Cx d2 W (h.modNil hmW)).mono ?_
            rintro e w' ⟨rfl, h1, h2⟩
            exact ⟨rfl, h1, hmW.ofNil.trans h2 (fun _ _ h => h)⟩)
          have HR3 := Lib.hid hr3
          have HD3 := Lib.hid hd3
          have hor : r3 = 0 ∨ r3 = 13 := by rw [← hr3]; exact d2.sync_err
          clear hr3 hd3
          rcases hor with rfl | rfl
          · go_upto_region 8 with (fail)
            refine wp_region_held_drew (S := fun w' => w'.cell? ⟨jb, 1, none⟩ = some (.pointer (some ⟨db, 0, none⟩))) (by kernel_rfl) (c1) (fun hHeld => ?_)
            refine sH 0 ?_
            refine sH 1 ?_
            refine sH 2 ?_
            refine sH 3 ?_
            refine sS 4 ?_
            refine sS 5 ?_
            refine sS 6 ?_
            refine sS 7 ?_
            refine sS 8 ?_
            refine sS 9 ?_
            refine sH 10 ?_
            refine sH 11 ?_
            refine sH 12 ?_
            refine sH 13 ?_
            refine sH 14 ?_
            refine sH 15 ?_
            refine sH 16 ?_
            refine sH 17 ?_
            refine sH 20 ?_
            refine sH 22 ?_
            refine sH 23 ?_
            refine rH 18 (fun K hK => ?_)
            go_simp
            refine (HSZ1.out wr _ hda ca ?_).mono ?_
            · (repeat (first | exact Mod.refl _ _ | refine Mod.drew ?_))
            rintro e w' ⟨rfl, rfl⟩
            refine hK.out _ _ ca (fun hHeld => ?_)
            clear hK K
            (try simp only [Act.put, pT])
            refine sH 19 ?_
            refine sH 21 ?_
            refine rH 24 (fun K hK => ?_)
            go_simp
            refine (HW1.out wr _ hda hma ?_).mono ?_
            · (repeat (first | exact Mod.refl _ _ | refine Mod.drew ?_))
            rintro e wb ⟨Cb, rfl, hdb, hCb, hmb⟩
            have cb := cell_kept ca hmb hja hj3
            have hjb := World.block_lt_of_cell? _ _ cb
            refine hK.out _ _ cb (fun hHeld => ?_)
            clear hK K
            (try simp only [Act.put, pT])
            refine sH 25 ?_
            refine sH 26 ?_
            refine sH 27 ?_
            refine sH 28 ?_
            refine sH 29 ?_
            refine sH 30 ?_
            refine sH 31 ?_
            refine rH 32 (fun K hK => ?_)
            go_simp
            refine (HS2.out wb _ _ hdb ?_).mono ?_
            · (repeat (first | exact Mod.refl _ _ | refine Mod.drew ?_))
            rintro e wc ⟨rfl, hdc, hmc⟩
            have cc := cell_kept cb hmc hjb hj3
            refine hK.out _ _ cc (fun hHeld => ?_)
            clear hK K
            (try simp only [Act.put, pT])
            refine sH 33 ?_
            refine sH 34 ?_
            refine wpAnyH_done (by kernel_rfl) ?_ _
            have HMX : Hid (Mod (fun k => k = db ∨ k = bl ∨ k = bm) w wc) := Lib.hid (((HMR.out.trans (Mod.refl _ _) (fun _ _ h => h)).trans hmb (fun _ _ h => h)).trans hmc (fun _ _ h => h))
            have HDX := Lib.hid hdc
            have HCX : Hid (∀ j, Cb j → C j ∨ w.heap.size ≤ j) := Lib.hid (hCb)
            have HLD : Hid (d.lays base b k = (d3, true)) := Lib.hid (by rw [HL.out]; unfold DS.heads; rw [if_neg HC1.out, HD1.out]; rw [if_neg (by rw [HR2.out]; exact fun h => h rfl), HD2.out, HD3.out, HR3.out]; rfl)
            go_wp2_with fail
            exact HGOOD.out Cb d3 wc HLD.out HDX.out HCX.out HMX.out
          · go_upto_region 8 with (fail)
            refine wp_region_held_drew (S := fun w' => w'.cell? ⟨jb, 1, none⟩ = some (.pointer (some ⟨db, 0, none⟩))) (by kernel_rfl) (c1) (fun hHeld => ?_)
            refine sH 0 ?_
            refine sH 1 ?_
            refine sH 2 ?_
            refine sH 3 ?_
            refine sS 4 ?_
            refine sS 5 ?_
            refine sS 6 ?_
            refine sS 7 ?_
            refine sS 8 ?_
            refine sS 9 ?_
            refine sH 10 ?_
            refine sH 11 ?_
            refine sH 12 ?_
            refine sH 13 ?_
            refine sH 14 ?_
            refine sH 15 ?_
            refine sH 16 ?_
            refine sH 17 ?_
            refine sH 20 ?_
            refine sH 22 ?_
            refine sH 23 ?_
            refine rH 18 (fun K hK => ?_)
            go_simp
            refine (HSZ1.out wr _ hda ca ?_).mono ?_
            · (repeat (first | exact Mod.refl _ _ | refine Mod.drew ?_))
            rintro e w' ⟨rfl, rfl⟩
            refine hK.out _ _ ca (fun hHeld => ?_)
            clear hK K
            (try simp only [Act.put, pT])
            refine sH 19 ?_
            refine sH 21 ?_
            refine rH 24 (fun K hK => ?_)
            go_simp
            refine (HW1.out wr _ hda hma ?_).mono ?_
            · (repeat (first | exact Mod.refl _ _ | refine Mod.drew ?_))
            rintro e wb ⟨Cb, rfl, hdb, hCb, hmb⟩
            have cb := cell_kept ca hmb hja hj3
            have hjb := World.block_lt_of_cell? _ _ cb
            refine hK.out _ _ cb (fun hHeld => ?_)
            clear hK K
            (try simp only [Act.put, pT])
            refine sH 25 ?_
            refine sH 26 ?_
            refine sH 27 ?_
            refine sH 28 ?_
            refine sH 29 ?_
            refine sH 30 ?_
            refine sH 31 ?_
            refine rH 32 (fun K hK => ?_)
            go_simp
            refine (HS2.out wb _ _ hdb ?_).mono ?_
            · (repeat (first | exact Mod.refl _ _ | refine Mod.drew ?_))
            rintro e wc ⟨rfl, hdc, hmc⟩
            have cc := cell_kept cb hmc hjb hj3
            refine hK.out _ _ cc (fun hHeld => ?_)
            clear hK K
            (try simp only [Act.put, pT])
            refine sH 33 ?_
            refine sH 34 ?_
            refine wpAnyH_done (by kernel_rfl) ?_ _
            have hmx : Mod (fun k => k = db ∨ k = bl ∨ k = bm) w wc := ((HMR.out.trans (Mod.refl _ _) (fun _ _ h => h)).trans hmb (fun _ _ h => h)).trans hmc (fun _ _ h => h)
            have HMX := Lib.hid hmx
            have HDX := Lib.hid hdc
            have HCX : Hid (∀ j, Cb j → C j ∨ w.heap.size ≤ j) := Lib.hid (hCb)
            have HLD : Hid (d.lays base b k = (d3, false)) := Lib.hid (by rw [HL.out]; unfold DS.heads; rw [if_neg HC1.out, HD1.out]; rw [if_neg (by rw [HR2.out]; exact fun h => h rfl), HD2.out, HD3.out, HR3.out]; rfl)
            have hbj := (HMX.out.block jb hjw hj3).trans HB0.out
            have y2 := cell_of hbj 2
            have yz := free_of hbj 2
            simp only [List.getElem?_toArray, List.getElem?_cons_zero, List.getElem?_cons_succ] at y2
            clear hbj hmx
            go_wp2_with fail
            exact HDOWN.out Cb d3 wc HLD.out HDX.out HCX.out HMX.out
        · have hrn : ((r2 : Int) != 0) = true := by simpa using hw0
          go_upto_region 8 with (fail)
          refine wp_region_held_drew (S := fun w' => w'.cell? ⟨jb, 1, none⟩ = some (.pointer (some ⟨db, 0, none⟩))) (by kernel_rfl) (c1) (fun hHeld => ?_)
          refine sH 0 ?_
          refine sH 1 ?_
          refine sH 2 ?_
          refine sH 3 ?_
          refine sS 4 ?_
          refine sS 5 ?_
          refine sS 6 ?_
          refine sS 7 ?_
          refine sS 8 ?_
          refine sS 9 ?_
          refine sH 10 ?_
          refine sH 11 ?_
          refine sH 12 ?_
          refine sH 13 ?_
          refine sH 14 ?_
          refine sH 15 ?_
          refine sH 16 ?_
          refine sH 17 ?_
          refine sH 20 ?_
          refine sH 22 ?_
          refine sH 23 ?_
          refine rH 18 (fun K hK => ?_)
          go_simp
          refine (HSZ1.out wr _ hda ca ?_).mono ?_
          · (repeat (first | exact Mod.refl _ _ | refine Mod.drew ?_))
          rintro e w' ⟨rfl, rfl⟩
          refine hK.out _ _ ca (fun hHeld => ?_)
          clear hK K
          (try simp only [Act.put, pT])
          refine sH 19 ?_
          refine sH 21 ?_
          refine rH 24 (fun K hK => ?_)
          go_simp
          refine (HW1.out wr _ hda hma ?_).mono ?_
          · (repeat (first | exact Mod.refl _ _ | refine Mod.drew ?_))
          rintro e wb ⟨Cb, rfl, hdb, hCb, hmb⟩
          have cb := cell_kept ca hmb hja hj3
          have hjb := World.block_lt_of_cell? _ _ cb
          refine hK.out _ _ cb (fun hHeld => ?_)
          clear hK K
          (try simp only [Act.put, pT])
          refine sH 25 ?_
          refine sH 26 ?_
          refine sH 27 ?_
          refine sS 28 ?_
          refine sS 29 ?_
          refine sS 30 ?_
          refine sS 31 ?_
          refine sS 32 ?_
          refine sS 33 ?_
          refine sH 34 ?_
          refine wpAnyH_done (by kernel_rfl) ?_ _
          have hmx : Mod (fun k => k = db ∨ k = bl ∨ k = bm) w wb := (HMR.out.trans (Mod.refl _ _) (fun _ _ h => h)).trans hmb (fun _ _ h => h)
          have HMX := Lib.hid hmx
          have HDX := Lib.hid hdb
          have HCX : Hid (∀ j, Cb j → C j ∨ w.heap.size ≤ j) := Lib.hid (hCb)
          have HLD : Hid (d.lays base b k = (d2, false)) := Lib.hid (by rw [HL.out]; unfold DS.heads; rw [if_neg HC1.out, HD1.out]; rw [if_pos (by rw [HR2.out]; exact hw0), HD2.out])
          have hbj := (HMX.out.block jb hjw hj3).trans HB0.out
          have y2 := cell_of hbj 2
          have yz := free_of hbj 2
          simp only [List.getElem?_toArray, List.getElem?_cons_zero, List.getElem?_cons_succ] at y2
          clear hbj hmx
          go_wp2_with fail
          exact HDOWN.out Cb d2 wb HLD.out HDX.out HCX.out HMX.out
      · have hgt : decide ((64 : Int) < (X : Int)) = true := by have := HLEN.out; simp; omega
        have hgt' : (64 : Int) < (X : Int) := by simpa using hgt
        by_cases hs0 : d'.sync.2 = 0
        · have HC1 : Hid (¬ (1 < k ∧ d'.sync.2 ≠ 0)) := Lib.hid (fun h => h.2 hs0)
          obtain ⟨d1, hd1⟩ : ∃ d1, d'.sync.1 = d1 := ⟨_, rfl⟩
          have HD1 : Hid ((if 1 < k then d'.sync.1 else d') = d1) := Lib.hid (by rw [if_pos (by omega)]; exact hd1)
          have HLN1 : Hid (d1.lasts.length = LL) := Lib.hid (by rw [← hd1, DS.sync_len]; exact HLR.out)
          have HS1 : Hid (∀ W, Mod nil wr W → Calls Tryz.prog 96 #[.pointer (some ⟨db, 0, none⟩)] W fun e w' => e = .returned (.int .i64 0) ∧ IsDisk w' db bl bm C' d1 ∧ Mod (fun k => k = db ∨ k = bl ∨ k = bm) wr w') := Lib.hid (fun W hmW => by
            refine (diskSync db bl bm C' d' W (HDR.out.modNil hmW)).mono ?_
            rintro e w' ⟨rfl, h1, h2⟩
            rw [hs0]
            rw [hd1] at h1
            exact ⟨rfl, h1, hmW.ofNil.trans h2 (fun _ _ h => h)⟩)
          clear hd1 hs0
          obtain ⟨r2, hr2⟩ : ∃ r, (d1.write (base : Int) (sectAt b 0)).2 = r := ⟨_, rfl⟩
          obtain ⟨d2, hd2⟩ : ∃ d2, (d1.write (base : Int) (sectAt b 0)).1 = d2 := ⟨_, rfl⟩
          have hlen2 : d2.lasts.length = LL := by rw [← hd2, DS.write_len, HLN1.out]
          have HW1 : Hid (∀ wa W, IsDisk wa db bl bm C' d1 → Mod (fun k => k = db ∨ k = bl ∨ k = bm) wr wa → Mod nil wa W → Calls Tryz.prog 17 #[.pointer (some ⟨db, 0, none⟩), .int .i64 base, .slice p 64 cap] W fun e w' => ∃ Cb, e = .returned (.int .i64 r2) ∧ IsDisk w' db bl bm Cb d2 ∧ (∀ j, Cb j → C j ∨ w.heap.size ≤ j) ∧ Mod (fun k => k = db ∨ k = bl ∨ k = bm) wa w') := Lib.hid (fun wa W hda hma hmW => by
            rw [← hr2, ← hd2]
            refine (diskWrite db bl bm C' T d1 (base : Int) _ (sectAt b 0) W (hda.modNil hmW) ((HRW.out.mod hma (fun j _ h => HTD.out j h)).modNil hmW) HTB.out h64).mono ?_
            rintro e w' ⟨Cb, rfl, h1, h2, h3⟩
            exact ⟨Cb, rfl, h1, fun j h => (h2 j h).elim (HCR.out j) (fun h => .inr (by have := hma.size; have := hmW.size; omega)), hmW.ofNil.trans h3 (fun j _ h => h.elim .inl (fun h => .inr (.inr h)))⟩)
          have HSZ1 : Hid (∀ wa W, IsDisk wa db bl bm C' d1 → wa.cell? ⟨jb, 1, none⟩ = some (.pointer (some ⟨db, 0, none⟩)) → Mod nil wa W → Calls Tryz.prog 83 #[.pointer (some ⟨jb, 0, none⟩)] W fun e w' => e = .returned (.int .i64 N) ∧ W = w') := Lib.hid (fun wa W h hc hmW => HSZ.out W C' d1 (h.modNil hmW) HLN1.out (cell_kept hc hmW (World.block_lt_of_cell? _ _ hc) (not_nil _)))
          have HR2 := Lib.hid hr2
          have HD2 := Lib.hid hd2
          clear hr2 hd2
          by_cases hw0 : r2 = 0
          · subst hw0
            obtain ⟨r3, hr3⟩ : ∃ r, d2.sync.2 = r := ⟨_, rfl⟩
            obtain ⟨d3, hd3⟩ : ∃ d3, d2.sync.1 = d3 := ⟨_, rfl⟩
            have HS2 : Hid (∀ wb W Cx, IsDisk wb db bl bm Cx d2 → Mod nil wb W → Calls Tryz.prog 96 #[.pointer (some ⟨db, 0, none⟩)] W fun e w' => e = .returned (.int .i64 r3) ∧ IsDisk w' db bl bm Cx d3 ∧ Mod (fun k => k = db ∨ k = bl ∨ k = bm) wb w') := Lib.hid (fun wb W Cx h hmW => by
              rw [← hr3, ← hd3]
              refine (diskSync db bl bm Cx d2 W (h.modNil hmW)).mono ?_
              rintro e w' ⟨rfl, h1, h2⟩
              exact ⟨rfl, h1, hmW.ofNil.trans h2 (fun _ _ h => h)⟩)
            have HR3 := Lib.hid hr3
            have HD3 := Lib.hid hd3
            have hor : r3 = 0 ∨ r3 = 13 := by rw [← hr3]; exact d2.sync_err
            clear hr3 hd3
            rcases hor with rfl | rfl
            · go_upto_region 8 with (fail)
              refine wp_region_held_drew (S := fun w' => w'.cell? ⟨jb, 1, none⟩ = some (.pointer (some ⟨db, 0, none⟩))) (by kernel_rfl) (c1) (fun hHeld => ?_)
              refine sH 0 ?_
              refine sH 1 ?_
              refine sH 2 ?_
              refine sH 3 ?_
              refine sH 4 ?_
              refine sH 5 ?_
              refine sH 6 ?_
              refine sH 7 ?_
              refine rH 8 (fun K hK => ?_)
              go_simp
              refine (HS1.out _ ?_).mono ?_
              · (repeat (first | exact Mod.refl _ _ | refine Mod.drew ?_))
              rintro e wa ⟨rfl, hda, hma⟩
              have ca := cell_kept c1 hma hjl hj3
              have hja := World.block_lt_of_cell? _ _ ca
              refine hK.out _ _ ca (fun hHeld => ?_)
              clear hK K
              (try simp only [Act.put, pT])
              refine sH 9 ?_
              refine sH 10 ?_
              refine sH 11 ?_
              refine sH 12 ?_
              refine sH 13 ?_
              refine sH 14 ?_
              refine sH 15 ?_
              refine sH 16 ?_
              refine sH 17 ?_
              refine sH 20 ?_
              refine sH 22 ?_
              refine sH 23 ?_
              refine rH 18 (fun K hK => ?_)
              go_simp
              refine (HSZ1.out wa _ hda ca ?_).mono ?_
              · (repeat (first | exact Mod.refl _ _ | refine Mod.drew ?_))
              rintro e w' ⟨rfl, rfl⟩
              refine hK.out _ _ ca (fun hHeld => ?_)
              clear hK K
              (try simp only [Act.put, pT])
              refine sH 19 ?_
              refine sH 21 ?_
              refine rH 24 (fun K hK => ?_)
              go_simp
              refine (HW1.out wa _ hda hma ?_).mono ?_
              · (repeat (first | exact Mod.refl _ _ | refine Mod.drew ?_))
              rintro e wb ⟨Cb, rfl, hdb, hCb, hmb⟩
              have cb := cell_kept ca hmb hja hj3
              have hjb := World.block_lt_of_cell? _ _ cb
              refine hK.out _ _ cb (fun hHeld => ?_)
              clear hK K
              (try simp only [Act.put, pT])
              refine sH 25 ?_
              refine sH 26 ?_
              refine sH 27 ?_
              refine sH 28 ?_
              refine sH 29 ?_
              refine sH 30 ?_
              refine sH 31 ?_
              refine rH 32 (fun K hK => ?_)
              go_simp
              refine (HS2.out wb _ _ hdb ?_).mono ?_
              · (repeat (first | exact Mod.refl _ _ | refine Mod.drew ?_))
              rintro e wc ⟨rfl, hdc, hmc⟩
              have cc := cell_kept cb hmc hjb hj3
              refine hK.out _ _ cc (fun hHeld => ?_)
              clear hK K
              (try simp only [Act.put, pT])
              refine sH 33 ?_
              refine sH 34 ?_
              refine wpAnyH_done (by kernel_rfl) ?_ _
              have HMX : Hid (Mod (fun k => k = db ∨ k = bl ∨ k = bm) w wc) := Lib.hid (((HMR.out.trans hma (fun _ _ h => h)).trans hmb (fun _ _ h => h)).trans hmc (fun _ _ h => h))
              have HDX := Lib.hid hdc
              have HCX : Hid (∀ j, Cb j → C j ∨ w.heap.size ≤ j) := Lib.hid (hCb)
              have HLD : Hid (d.lays base b k = (d3, true)) := Lib.hid (by rw [HL.out]; unfold DS.heads; rw [if_neg HC1.out, HD1.out]; rw [if_neg (by rw [HR2.out]; exact fun h => h rfl), HD2.out, HD3.out, HR3.out]; rfl)
              go_wp2_with fail
              exact HGOOD.out Cb d3 wc HLD.out HDX.out HCX.out HMX.out
            · go_upto_region 8 with (fail)
              refine wp_region_held_drew (S := fun w' => w'.cell? ⟨jb, 1, none⟩ = some (.pointer (some ⟨db, 0, none⟩))) (by kernel_rfl) (c1) (fun hHeld => ?_)
              refine sH 0 ?_
              refine sH 1 ?_
              refine sH 2 ?_
              refine sH 3 ?_
              refine sH 4 ?_
              refine sH 5 ?_
              refine sH 6 ?_
              refine sH 7 ?_
              refine rH 8 (fun K hK => ?_)
              go_simp
              refine (HS1.out _ ?_).mono ?_
              · (repeat (first | exact Mod.refl _ _ | refine Mod.drew ?_))
              rintro e wa ⟨rfl, hda, hma⟩
              have ca := cell_kept c1 hma hjl hj3
              have hja := World.block_lt_of_cell? _ _ ca
              refine hK.out _ _ ca (fun hHeld => ?_)
              clear hK K
              (try simp only [Act.put, pT])
              refine sH 9 ?_
              refine sH 10 ?_
              refine sH 11 ?_
              refine sH 12 ?_
              refine sH 13 ?_
              refine sH 14 ?_
              refine sH 15 ?_
              refine sH 16 ?_
              refine sH 17 ?_
              refine sH 20 ?_
              refine sH 22 ?_
              refine sH 23 ?_
              refine rH 18 (fun K hK => ?_)
              go_simp
              refine (HSZ1.out wa _ hda ca ?_).mono ?_
              · (repeat (first | exact Mod.refl _ _ | refine Mod.drew ?_))
              rintro e w' ⟨rfl, rfl⟩
              refine hK.out _ _ ca (fun hHeld => ?_)
              clear hK K
              (try simp only [Act.put, pT])
              refine sH 19 ?_
              refine sH 21 ?_
              refine rH 24 (fun K hK => ?_)
              go_simp
              refine (HW1.out wa _ hda hma ?_).mono ?_
              · (repeat (first | exact Mod.refl _ _ | refine Mod.drew ?_))
              rintro e wb ⟨Cb, rfl, hdb, hCb, hmb⟩
              have cb := cell_kept ca hmb hja hj3
              have hjb := World.block_lt_of_cell? _ _ cb
              refine hK.out _ _ cb (fun hHeld => ?_)
              clear hK K
              (try simp only [Act.put, pT])
              refine sH 25 ?_
              refine sH 26 ?_
              refine sH 27 ?_
              refine sH 28 ?_
              refine sH 29 ?_
              refine sH 30 ?_
              refine sH 31 ?_
              refine rH 32 (fun K hK => ?_)
              go_simp
              refine (HS2.out wb _ _ hdb ?_).mono ?_
              · (repeat (first | exact Mod.refl _ _ | refine Mod.drew ?_))
              rintro e wc ⟨rfl, hdc, hmc⟩
              have cc := cell_kept cb hmc hjb hj3
              refine hK.out _ _ cc (fun hHeld => ?_)
              clear hK K
              (try simp only [Act.put, pT])
              refine sH 33 ?_
              refine sH 34 ?_
              refine wpAnyH_done (by kernel_rfl) ?_ _
              have hmx : Mod (fun k => k = db ∨ k = bl ∨ k = bm) w wc := ((HMR.out.trans hma (fun _ _ h => h)).trans hmb (fun _ _ h => h)).trans hmc (fun _ _ h => h)
              have HMX := Lib.hid hmx
              have HDX := Lib.hid hdc
              have HCX : Hid (∀ j, Cb j → C j ∨ w.heap.size ≤ j) := Lib.hid (hCb)
              have HLD : Hid (d.lays base b k = (d3, false)) := Lib.hid (by rw [HL.out]; unfold DS.heads; rw [if_neg HC1.out, HD1.out]; rw [if_neg (by rw [HR2.out]; exact fun h => h rfl), HD2.out, HD3.out, HR3.out]; rfl)
              have hbj := (HMX.out.block jb hjw hj3).trans HB0.out
              have y2 := cell_of hbj 2
              have yz := free_of hbj 2
              simp only [List.getElem?_toArray, List.getElem?_cons_zero, List.getElem?_cons_succ] at y2
              clear hbj hmx
              go_wp2_with fail
              exact HDOWN.out Cb d3 wc HLD.out HDX.out HCX.out HMX.out
          · have hrn : ((r2 : Int) != 0) = true := by simpa using hw0
            go_upto_region 8 with (fail)
            refine wp_region_held_drew (S := fun w' => w'.cell? ⟨jb, 1, none⟩ = some (.pointer (some ⟨db, 0, none⟩))) (by kernel_rfl) (c1) (fun hHeld => ?_)
            refine sH 0 ?_
            refine sH 1 ?_
            refine sH 2 ?_
            refine sH 3 ?_
            refine sH 4 ?_
            refine sH 5 ?_
            refine sH 6 ?_
            refine sH 7 ?_
            refine rH 8 (fun K hK => ?_)
            go_simp
            refine (HS1.out _ ?_).mono ?_
            · (repeat (first | exact Mod.refl _ _ | refine Mod.drew ?_))
            rintro e wa ⟨rfl, hda, hma⟩
            have ca := cell_kept c1 hma hjl hj3
            have hja := World.block_lt_of_cell? _ _ ca
            refine hK.out _ _ ca (fun hHeld => ?_)
            clear hK K
            (try simp only [Act.put, pT])
            refine sH 9 ?_
            refine sH 10 ?_
            refine sH 11 ?_
            refine sH 12 ?_
            refine sH 13 ?_
            refine sH 14 ?_
            refine sH 15 ?_
            refine sH 16 ?_
            refine sH 17 ?_
            refine sH 20 ?_
            refine sH 22 ?_
            refine sH 23 ?_
            refine rH 18 (fun K hK => ?_)
            go_simp
            refine (HSZ1.out wa _ hda ca ?_).mono ?_
            · (repeat (first | exact Mod.refl _ _ | refine Mod.drew ?_))
            rintro e w' ⟨rfl, rfl⟩
            refine hK.out _ _ ca (fun hHeld => ?_)
            clear hK K
            (try simp only [Act.put, pT])
            refine sH 19 ?_
            refine sH 21 ?_
            refine rH 24 (fun K hK => ?_)
            go_simp
            refine (HW1.out wa _ hda hma ?_).mono ?_
            · (repeat (first | exact Mod.refl _ _ | refine Mod.drew ?_))
            rintro e wb ⟨Cb, rfl, hdb, hCb, hmb⟩
            have cb := cell_kept ca hmb hja hj3
            have hjb := World.block_lt_of_cell? _ _ cb
            refine hK.out _ _ cb (fun hHeld => ?_)
            clear hK K
            (try simp only [Act.put, pT])
            refine sH 25 ?_
            refine sH 26 ?_
            refine sH 27 ?_
            refine sS 28 ?_
            refine sS 29 ?_
            refine sS 30 ?_
            refine sS 31 ?_
            refine sS 32 ?_
            refine sS 33 ?_
            refine sH 34 ?_
            refine wpAnyH_done (by kernel_rfl) ?_ _
            have hmx : Mod (fun k => k = db ∨ k = bl ∨ k = bm) w wb := (HMR.out.trans hma (fun _ _ h => h)).trans hmb (fun _ _ h => h)
            have HMX := Lib.hid hmx
            have HDX := Lib.hid hdb
            have HCX : Hid (∀ j, Cb j → C j ∨ w.heap.size ≤ j) := Lib.hid (hCb)
            have HLD : Hid (d.lays base b k = (d2, false)) := Lib.hid (by rw [HL.out]; unfold DS.heads; rw [if_neg HC1.out, HD1.out]; rw [if_pos (by rw [HR2.out]; exact hw0), HD2.out])
            have hbj := (HMX.out.block jb hjw hj3).trans HB0.out
            have y2 := cell_of hbj 2
            have yz := free_of hbj 2
            simp only [List.getElem?_toArray, List.getElem?_cons_zero, List.getElem?_cons_succ] at y2
            clear hbj hmx
            go_wp2_with fail
            exact HDOWN.out Cb d2 wb HLD.out HDX.out HCX.out HMX.out
        · have HC1 : Hid (1 < k ∧ d'.sync.2 ≠ 0) := Lib.hid ⟨by omega, hs0⟩
          replace hs0 : d'.sync.2 = 13 := d'.sync_err.resolve_left hs0
          obtain ⟨d1, hd1⟩ : ∃ d1, d'.sync.1 = d1 := ⟨_, rfl⟩
          have HD1 := Lib.hid hd1
          have HS1 : Hid (∀ W, Mod nil wr W → Calls Tryz.prog 96 #[.pointer (some ⟨db, 0, none⟩)] W fun e w' => e = .returned (.int .i64 13) ∧ IsDisk w' db bl bm C' d1 ∧ Mod (fun k => k = db ∨ k = bl ∨ k = bm) wr w') := Lib.hid (fun W hmW => by
            refine (diskSync db bl bm C' d' W (HDR.out.modNil hmW)).mono ?_
            rintro e w' ⟨rfl, h1, h2⟩
            rw [hs0]
            rw [hd1] at h1
            exact ⟨rfl, h1, hmW.ofNil.trans h2 (fun _ _ h => h)⟩)
          clear hd1 hs0
          go_upto_region 8 with (fail)
          refine wp_region_held_drew (S := fun w' => w'.cell? ⟨jb, 1, none⟩ = some (.pointer (some ⟨db, 0, none⟩))) (by kernel_rfl) (c1) (fun hHeld => ?_)
          refine sH 0 ?_
          refine sH 1 ?_
          refine sH 2 ?_
          refine sH 3 ?_
          refine sH 4 ?_
          refine sH 5 ?_
          refine sH 6 ?_
          refine sH 7 ?_
          refine rH 8 (fun K hK => ?_)
          go_simp
          refine (HS1.out _ ?_).mono ?_
          · (repeat (first | exact Mod.refl _ _ | refine Mod.drew ?_))
          rintro e wa ⟨rfl, hda, hma⟩
          have ca := cell_kept c1 hma hjl hj3
          have hja := World.block_lt_of_cell? _ _ ca
          refine hK.out _ _ ca (fun hHeld => ?_)
          clear hK K
          (try simp only [Act.put, pT])
          refine sH 9 ?_
          refine sH 10 ?_
          refine sH 11 ?_
          refine sS 12 ?_
          refine sS 13 ?_
          refine sS 14 ?_
          refine sS 15 ?_
          refine sS 16 ?_
          refine sS 17 ?_
          refine sS 20 ?_
          refine sS 22 ?_
          refine sS 23 ?_
          refine sS 18 ?_
          refine sS 19 ?_
          refine sS 21 ?_
          refine sS 24 ?_
          refine sS 25 ?_
          refine sH 26 ?_
          refine sH 27 ?_
          refine sS 28 ?_
          refine sS 29 ?_
          refine sS 30 ?_
          refine sS 31 ?_
          refine sS 32 ?_
          refine sS 33 ?_
          refine sH 34 ?_
          refine wpAnyH_done (by kernel_rfl) ?_ _
          have hmx : Mod (fun k => k = db ∨ k = bl ∨ k = bm) w wa := HMR.out.trans hma (fun _ _ h => h)
          have HMX := Lib.hid hmx
          have HDX := Lib.hid hda
          have HCX : Hid (∀ j, C' j → C j ∨ w.heap.size ≤ j) := Lib.hid (HCR.out)
          have HLD : Hid (d.lays base b k = (d1, false)) := Lib.hid (by rw [HL.out]; unfold DS.heads; rw [if_pos HC1.out, HD1.out])
          have hbj := (HMX.out.block jb hjw hj3).trans HB0.out
          have y2 := cell_of hbj 2
          have yz := free_of hbj 2
          simp only [List.getElem?_toArray, List.getElem?_cons_zero, List.getElem?_cons_succ] at y2
          clear hbj hmx
          go_wp2_with fail
          exact HDOWN.out C' d1 wa HLD.out HDX.out HCX.out HMX.out
end Go.Proofs.YtdfahddpkkeldaaGreat

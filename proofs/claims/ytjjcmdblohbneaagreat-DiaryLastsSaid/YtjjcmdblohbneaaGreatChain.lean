/- Package sha: NewTable, One. -/
import Derived.Test.YtjjcmdblohbneaaGreatShaSum
import Derived.Test.YtjjcmdblohbneaaGreatEntSame
import Derived.Test.YtjjcmdblohbneaaGreatWire
namespace Go.Proofs.YtjjcmdblohbneaaGreat
open Go.RowKit

/-- the hash of a text -/
def shaOf (m : List UInt8) : List UInt8 := sumOf (m.drop (64 * (m.length / 64))) m.length (mixK m hV (m.length / 64))
theorem shaOf_length (m : List UInt8) : (shaOf m).length = 32 := sumOf_length _ _ _
theorem shaNewTable (w : World) : Calls Tryz.prog 8 #[] w fun e w' => ∃ tb, e = .returned (.pointer (some ⟨tb, 0, none⟩)) ∧ IsTab w' tb ∧ w.heap.size ≤ tb ∧ Mod nil w w' := by
  go_enter Tryz.func8, Tryz.ntmps8
  go_wp2_with fail
  go_ret
  refine ⟨w.heap.size, rfl, .inr ⟨List.replicate 64 0#32, List.replicate 8 0#32, by simp, by simp, ?_⟩, Nat.le_refl _, (Mod.refl _ _).alloc _⟩
  rw [heap_alloc_new]
  rfl
theorem shaOne (tb : Nat) (T : Nat → Prop) (vb : Value) (m : List UInt8) (w : World) (ht : IsTab w tb) (hrow : IsRow T w vb (bys m)) (hTt : ∀ k, T k → k < w.heap.size ∧ k ≠ tb) (hm : m.length ≤ 1099511627000) :
    Calls Tryz.prog 69 #[.pointer (some ⟨tb, 0, none⟩), vb] w fun e w' => ∃ v', e = .returned v' ∧ IsVec (fun k => w.heap.size ≤ k) w' 5 1 v' 32 (bys (shaOf m)) ∧ IsTab w' tb ∧ Mod (· = tb) w w' := by
  refine (?_ : ∀ Post : Ending → World → Prop, Hid (∀ e w', (∃ v', e = .returned v' ∧ IsVec (fun k => w.heap.size ≤ k) w' 5 1 v' 32 (bys (shaOf m)) ∧ IsTab w' tb ∧ Mod (· = tb) w w') → Post e w') → Calls Tryz.prog 69 #[.pointer (some ⟨tb, 0, none⟩), vb] w Post) _ (Lib.hid (fun _ _ h => h))
  intro Post HPOST
  have HT := Lib.hid ht
  have HR := Lib.hid hrow
  have HTT := Lib.hid hTt
  obtain ⟨pm, cm, rfl, _⟩ := id hrow
  obtain ⟨M, hM⟩ : ∃ M, m.length = M := ⟨_, rfl⟩
  rw [bys_length, hM] at HR ⊢
  have HML := Lib.hid hM
  clear ht hrow hTt hM
  go_enter Tryz.func69, Tryz.ntmps69
  go_wp2_with fail
  refine (shaNew tb w HT.out).mono ?_
  rintro e w1 ⟨b, rfl, hh1, hb1, hf1, hm1⟩
  have htl := HT.out.lt
  have HH1 := Lib.hid hh1
  have HF1 := Lib.hid hf1
  have HM1 := Lib.hid hm1
  clear hh1 hf1 hm1
  go_wp2_with fail
  refine (shaWrite b tb hV (fun _ => False) T (.slice none 0 0) (.slice pm M cm) [] m 0 w1 HH1.out (IsVec.nil _ _ _ _) id id (by omega) (full_tab HF1.out) (HR.out.mod HM1.out (fun k _ hk e => (HTT.out k hk).2 e)) (fun h => by have := (HTT.out b h).1; omega) (by simp; omega) (by omega)).mono ?_
  rintro e w2 ⟨rfl, ⟨rv, hh2, hv2⟩, ht2, hm2⟩
  rw [List.nil_append, Nat.zero_add] at hh2
  rw [List.nil_append] at hv2
  have HH2 := Lib.hid hh2
  have HV2 := Lib.hid hv2
  have HT2 := Lib.hid ht2
  have HM2 := Lib.hid hm2
  clear hh2 hv2 ht2 hm2
  go_wp2_with fail
  refine (shaSum b tb _ _ rv (m.drop (64 * (m.length / 64))) m.length w2 HH2.out HV2.out (by omega) HT2.out (by simp; omega) (by omega)).mono ?_
  rintro e w3 ⟨v3, rfl, hv3, ht3, hm3⟩
  have hmf : Mod (· = tb) w w3 := (HM1.out.trans HM2.out (fun k hk h => h.elim id (fun h => h.elim (fun h => by omega) (fun h => h.elim)))).trans hm3 (fun _ _ h => h)
  have hvf : IsVec (fun k => w.heap.size ≤ k) w3 5 1 v3 32 (bys (shaOf m)) := hv3.mono (fun k _ hk => by have := HM1.out.size; have := HM2.out.size; omega)
  have HF := Lib.hid (And.intro hvf (And.intro ht3 hmf))
  clear hv3 ht3 hmf hvf
  go_wp2_with fail
  exact HPOST.out _ _ ⟨v3, rfl, HF.out.1, HF.out.2.1, HF.out.2.2⟩
end Go.Proofs.YtjjcmdblohbneaaGreat

/- Hashing in several writes: the contracts of New, Write, Sum by the bytes that were written. -/
namespace Go.Proofs.YtjjcmdblohbneaaGreat
open Go.RowKit
theorem mixTake (A B : List UInt8) (v : V8) (q : Nat) (h : 64 * q ≤ A.length) : mixK (A ++ B) v q = mixK A v q := by
  induction q with
  | zero => rfl
  | succ q ih =>
    rw [mixK, mixK, ih (by omega), List.drop_append_of_le_length (by omega), List.take_append_of_le_length (by rw [List.length_drop]; omega)]
theorem mixAfter (A B : List UInt8) (v : V8) (q k : Nat) (h : A.length = 64 * q) : mixK (A ++ B) v (q + k) = mixK B (mixK A v q) k := by
  induction k with
  | zero => exact mixTake A B v q (by omega)
  | succ k ih =>
    rw [← Nat.add_assoc, mixK, mixK, ih, show 64 * (q + k) = A.length + 64 * k by omega, List.drop_length_add_append]
/-- a hash that has taken m -/
def IsHashOf (S : Nat → Prop) (w : World) (b tb : Nat) (m : List UInt8) : Prop :=
  ∃ rv, IsHash w b tb (mixK m hV (m.length / 64)) rv (m.length : Nat) ∧ IsVec S w 5 1 rv (m.drop (64 * (m.length / 64))).length (bys (m.drop (64 * (m.length / 64))))
theorem IsHashOf.mod {S T : Nat → Prop} {w w' : World} {b tb : Nat} {m : List UInt8} (h : IsHashOf S w b tb m) (d : Mod T w w') (hb : ¬ T b) (hs : ∀ k, k < w.heap.size → S k → ¬ T k) : IsHashOf S w' b tb m := by
  obtain ⟨rv, h1, h2⟩ := h
  exact ⟨rv, (d.block b (heap_lt h1) hb).trans h1, h2.mod d hs⟩
theorem IsHashOf.lt {S : Nat → Prop} {w : World} {b tb : Nat} {m : List UInt8} (h : IsHashOf S w b tb m) : b < w.heap.size := by
  obtain ⟨rv, h1, h2⟩ := h
  exact heap_lt h1
theorem shaNew2 (tb : Nat) (w : World) (ht : IsTab w tb) :
    Calls Tryz.prog 97 #[.pointer (some ⟨tb, 0, none⟩)] w fun e w' => ∃ b, e = .returned (.pointer (some ⟨b, 0, none⟩)) ∧ IsHashOf nil w' b tb [] ∧ w.heap.size ≤ b ∧ IsTab w' tb ∧ Mod (· = tb) w w' :=
  (shaNew tb w ht).mono fun _ _ ⟨b, h1, h2, h3, h4, h5⟩ => ⟨b, h1, ⟨_, h2, IsVec.nil _ _ _ _⟩, h3, full_tab h4, h5⟩
theorem shaWrite2 (b tb : Nat) (S T : Nat → Prop) (vb : Value) (m x : List UInt8) (w : World) (hh : IsHashOf S w b tb m) (hSb : ¬ S b) (hSt : ¬ S tb) (hne : tb ≠ b) (ht : IsTab w tb)
    (hrow : IsRow T w vb (bys x)) (hTb : ¬ T b) (hl : m.length + x.length ≤ 1099511627776) :
    Calls Tryz.prog 98 #[.pointer (some ⟨b, 0, none⟩), vb] w fun e w' => e = .returned (.tuple #[]) ∧ IsHashOf (fun k => w.heap.size ≤ k) w' b tb (m ++ x) ∧ IsTab w' tb ∧ Mod (fun k => k = tb ∨ k = b ∨ S k) w w' := by
  obtain ⟨rv, h1, h2⟩ := hh
  obtain ⟨q, hq⟩ : ∃ q, m.length / 64 = q := ⟨_, rfl⟩
  rw [hq] at h1 h2
  have hA : (m.take (64 * q)).length = 64 * q := by rw [List.length_take]; omega
  have hr : (m.drop (64 * q)).length = m.length - 64 * q := List.length_drop
  have hv : mixK m hV q = mixK (m.take (64 * q)) hV q := by
    have := mixTake (m.take (64 * q)) (m.drop (64 * q)) hV q (by omega)
    rwa [List.take_append_drop] at this
  have hsplit : m ++ x = m.take (64 * q) ++ (m.drop (64 * q) ++ x) := by rw [← List.append_assoc, List.take_append_drop]
  have hlen : (m ++ x).length / 64 = q + (m.drop (64 * q) ++ x).length / 64 := by rw [List.length_append, List.length_append, hr]; omega
  have hmix : mixK (m.drop (64 * q) ++ x) (mixK m hV q) ((m.drop (64 * q) ++ x).length / 64) = mixK (m ++ x) hV ((m ++ x).length / 64) := by
    rw [hlen, hsplit, mixAfter _ _ _ _ _ hA, hv]
  have hdrop : (m.drop (64 * q) ++ x).drop (64 * ((m.drop (64 * q) ++ x).length / 64)) = (m ++ x).drop (64 * ((m ++ x).length / 64)) := by
    rw [hlen, hsplit, Nat.mul_add]
    generalize m.drop (64 * q) ++ x = y
    generalize hA' : m.take (64 * q) = A at hA
    rw [show 64 * q + 64 * (y.length / 64) = A.length + 64 * (y.length / 64) by omega, List.drop_length_add_append]
  refine (shaWrite b tb (mixK m hV q) S T rv vb (m.drop (64 * q)) x m.length w h1 h2 hSb hSt hne ht hrow hTb (by rw [hr]; omega) (by omega)).mono ?_
  rintro e w' ⟨rfl, ⟨rv', k1, k2⟩, k3, k4⟩
  rw [hmix] at k1
  rw [hdrop] at k2
  rw [← List.length_append] at k1
  exact ⟨rfl, ⟨rv', k1, k2⟩, k3, k4⟩
theorem shaSum2 (b tb : Nat) (S : Nat → Prop) (m : List UInt8) (w : World) (hh : IsHashOf S w b tb m) (hne : tb ≠ b) (ht : IsTab w tb) (hm : m.length ≤ 1099511627000) :
    Calls Tryz.prog 99 #[.pointer (some ⟨b, 0, none⟩)] w fun e w' => ∃ v', e = .returned v' ∧ IsVec (fun k => w.heap.size ≤ k) w' 5 1 v' 32 (bys (shaOf m)) ∧ IsTab w' tb ∧ Mod (· = tb) w w' := by
  obtain ⟨rv, h1, h2⟩ := hh
  exact shaSum b tb _ S rv _ m.length w h1 h2 hne ht (by rw [List.length_drop]; omega) (by omega)
end Go.Proofs.YtjjcmdblohbneaaGreat

/- Package chain: New, may, starts. -/
namespace Go.Proofs.YtjjcmdblohbneaaGreat
open Go.RowKit
def zeros32 : List UInt8 := List.replicate 32 0
/-- what stands ahead of an entry's body -/
def entStart (k n : Nat) : List UInt8 := [] ++ layC k 1 1 ++ layC n 4 4
theorem entStart_length (k n : Nat) : (entStart k n).length = 5 := by simp [entStart, layC_length]
/-- what is wrong with an entry -/
def entErr (k : Int) (n : Nat) : Int := if k < 0 ∨ 255 < k then 1 else if 60000 < n then 3 else 0
/-- the head behind an entry -/
def nextH (h : List UInt8) (e : En) : List UInt8 := shaOf (h ++ entStart e.k.toNat e.b.length ++ e.b)
def headH (l : List En) : List UInt8 := l.foldl nextH zeros32
theorem headH_snoc (l : List En) (e : En) : headH (l ++ [e]) = nextH (headH l) e := by simp [headH]
theorem nextH_length (h : List UInt8) (e : En) : (nextH h e).length = 32 := shaOf_length _
theorem headH_length (l : List En) : (headH l).length = 32 := by
  rcases List.eq_nil_or_concat l with rfl | ⟨m, e, rfl⟩
  · simp [headH, zeros32]
  · rw [List.concat_eq_append, headH_snoc, nextH_length]
/-- a chain at block cb, its head h, n entries; all of its blocks are in S -/
structure IsChain (S : Nat → Prop) (w : World) (cb tb : Nat) (h : List UInt8) (n : Nat) : Prop where
  own : S cb
  len : h.length = 32
  ex : ∃ p c, w.heap[cb]? = some (.cells #[.pointer (some ⟨tb, 0, none⟩), .slice p 32 c, .int .i64 n] 110 (0, 0)) ∧ IsRow (fun k => S k ∧ k ≠ cb) w (.slice p 32 c) (bys h)
theorem IsChain.mod {S T : Nat → Prop} {w w' : World} {cb tb : Nat} {h : List UInt8} {n : Nat} (hc : IsChain S w cb tb h n) (m : Mod T w w') (hs : ∀ k, k < w.heap.size → S k → ¬ T k) : IsChain S w' cb tb h n := by
  obtain ⟨p, c, h1, h2⟩ := hc.ex
  exact ⟨hc.own, hc.len, p, c, (m.block cb (heap_lt h1) (hs cb (heap_lt h1) hc.own)).trans h1, h2.mod m (fun k hk h => hs k hk h.1)⟩
theorem IsChain.modNil {S : Nat → Prop} {w w' : World} {cb tb : Nat} {h : List UInt8} {n : Nat} (hc : IsChain S w cb tb h n) (m : Mod nil w w') : IsChain S w' cb tb h n := hc.mod m (fun _ _ _ f => f)
theorem IsChain.mono {S T : Nat → Prop} {w : World} {cb tb : Nat} {h : List UInt8} {n : Nat} (hc : IsChain S w cb tb h n) (hs : ∀ k, k < w.heap.size → S k → T k) : IsChain T w cb tb h n := by
  obtain ⟨p, c, h1, h2⟩ := hc.ex
  exact ⟨hs cb (heap_lt h1) hc.own, hc.len, p, c, h1, h2.mono (fun k hk h => ⟨hs k hk h.1, h.2⟩)⟩
theorem IsChain.lt {S : Nat → Prop} {w : World} {cb tb : Nat} {h : List UInt8} {n : Nat} (hc : IsChain S w cb tb h n) : cb < w.heap.size := by
  obtain ⟨p, c, h1, h2⟩ := hc.ex
  exact heap_lt h1
theorem bys_replicate0 (n : Nat) : bys (List.replicate n 0) = List.replicate n (.int .u8 0) := by simp [bys]
theorem chainNew (tb : Nat) (w : World) : Calls Tryz.prog 33 #[.pointer (some ⟨tb, 0, none⟩)] w fun e w' => ∃ cb, e = .returned (.pointer (some ⟨cb, 0, none⟩)) ∧ IsChain (fun k => w.heap.size ≤ k) w' cb tb zeros32 0 ∧ Mod nil w w' := by
  obtain ⟨i0, hi0, hz0, hz1, hz2⟩ := info_parts info_u8
  have hmk : (Instr.makeSlice 34 (.int .i64 32) (.int .i64 32)).run Tryz.prog w = .ok (.slice (some ⟨w.heap.size, 0, none⟩) 32 32) (w.alloc (.cells (List.replicate 32 (.int .u8 0)).toArray 5)) := run_make_one 34 5 i0 _ 1 Tryz.underlying34 hi0 hz0 hz1 hz2 rfl 32 (by omega) (by unfold maxLen; omega) w
  obtain ⟨L, hL⟩ : ∃ L, (List.replicate 32 (Value.int .u8 0)).toArray = L := ⟨_, rfl⟩
  rw [hL] at hmk
  have HL := Lib.hid hL
  clear hL hi0 hz0 hz1 hz2
  go_enter Tryz.func33, Tryz.ntmps33
  go_wp2_with fail
  go_ret
  obtain ⟨g, hg⟩ : ∃ g, w.heap.size = g := ⟨_, rfl⟩
  obtain ⟨w1, hw1⟩ : ∃ w1, w.alloc (.cells L 5) = w1 := ⟨_, rfl⟩
  have hs1 : w1.heap.size = g + 1 := by rw [← hw1, ← hg]; simp
  have hb1 : w1.heap[g]? = some (.cells (bys zeros32).toArray 5 (0, 0)) := by rw [← hw1, ← hg, zeros32, bys_replicate0, HL.out]; exact heap_alloc_new _ _
  have hm1 : Mod nil w w1 := by rw [← hw1]; exact (Mod.refl _ _).alloc _
  rw [hw1, hg]
  refine ⟨g + 1, by rw [← hs1]; rfl, ⟨by omega, by simp [zeros32], _, _, by rw [← hs1]; exact heap_alloc_new _ _, ?_⟩, hm1.thenNil ((Mod.refl _ _).alloc _)⟩
  exact (IsRow.ofBlock (S := fun k => k = g) hb1 rfl 32 32 (by simp [zeros32, bys])).modNil ((Mod.refl nil w1).alloc _) |>.mono (fun k _ h => by subst h; omega)
theorem chainMay (k : Int) (p : Option Addr) (n c : Nat) (w : World) (hn : n ≤ maxLen) :
    Calls Tryz.prog 68 #[.agg #[.int .i64 k, .slice p n c]] w fun e w' => e = .returned (.int .i64 (entErr k n)) ∧ Mod nil w w' := by
  unfold maxLen at hn
  rcases (show k < 0 ∨ (0 ≤ k ∧ 255 < k) ∨ (0 ≤ k ∧ k ≤ 255 ∧ 60000 < n) ∨ (0 ≤ k ∧ k ≤ 255 ∧ n ≤ 60000) by omega) with h1 | ⟨h1, h2⟩ | ⟨h1, h2, h3⟩ | ⟨h1, h2, h3⟩
  · obtain ⟨r, hr⟩ : ∃ r, entErr k n = r := ⟨_, rfl⟩
    have HR : Hid (r = 1) := Lib.hid (by rw [← hr]; unfold entErr; rw [if_pos (by omega)])
    rw [hr]
    clear hr
    go_enter Tryz.func68, Tryz.ntmps68
    go_wp2_with fail
    go_ret
    exact ⟨by rw [HR.out]; rfl, (Mod.refl _ _).alloc _⟩
  · obtain ⟨r, hr⟩ : ∃ r, entErr k n = r := ⟨_, rfl⟩
    have HR : Hid (r = 1) := Lib.hid (by rw [← hr]; unfold entErr; rw [if_pos (by omega)])
    rw [hr]
    clear hr
    go_enter Tryz.func68, Tryz.ntmps68
    go_wp2_with fail
    go_ret
    exact ⟨by rw [HR.out]; rfl, (Mod.refl _ _).alloc _⟩
  · obtain ⟨r, hr⟩ : ∃ r, entErr k n = r := ⟨_, rfl⟩
    have HR : Hid (r = 3) := Lib.hid (by rw [← hr]; unfold entErr; rw [if_neg (by omega), if_pos (by omega)])
    rw [hr]
    clear hr
    go_enter Tryz.func68, Tryz.ntmps68
    go_wp2_with fail
    go_ret
    exact ⟨by rw [HR.out]; rfl, (Mod.refl _ _).alloc _⟩
  · obtain ⟨r, hr⟩ : ∃ r, entErr k n = r := ⟨_, rfl⟩
    have HR : Hid (r = 0) := Lib.hid (by rw [← hr]; unfold entErr; rw [if_neg (by omega), if_neg (by omega)])
    rw [hr]
    clear hr
    go_enter Tryz.func68, Tryz.ntmps68
    go_wp2_with fail
    go_ret
    exact ⟨by rw [HR.out]; rfl, (Mod.refl _ _).alloc _⟩
set_option maxRecDepth 100000 in
set_option maxHeartbeats 1000000 in
theorem chainStarts (kind nb cb : Nat) (pb : Option Addr) (w : World) (h1 : kind ≤ 255) (h4 : nb ≤ 60000) :
    Calls Tryz.prog 71 #[.agg #[.int .i64 kind, .slice pb nb cb]] w fun e w' => ∃ v, e = .returned v ∧ IsVec (fun k => w.heap.size ≤ k) w' 5 1 v 5 (bys (entStart kind nb)) ∧ Mod nil w w' := by
  refine (?_ : ∀ Post : Ending → World → Prop, Hid (∀ e w', (∃ v, e = .returned v ∧ IsVec (fun k => w.heap.size ≤ k) w' 5 1 v 5 (bys (entStart kind nb)) ∧ Mod nil w w') → Post e w') → Calls Tryz.prog 71 #[.agg #[.int .i64 kind, .slice pb nb cb]] w Post) _ (Lib.hid (fun _ _ h => h))
  intro Post HPOST
  go_enter Tryz.func71, Tryz.ntmps71
  go_wp2_with fail
  obtain ⟨G, hG⟩ : ∃ G, w.heap.size = G := ⟨_, rfl⟩
  rw [hG]
  generalize hw1 : World.alloc w _ = w1
  have hx1 : w1.heap[G]? = some (.cells #[.int .i64 kind, .slice pb nb cb] 36 (0, 0)) := by rw [← hw1, ← hG]; exact heap_alloc_new _ _
  have hm1 : Mod nil w w1 := by rw [← hw1]; exact (Mod.refl _ _).alloc _
  obtain ⟨B, hBB⟩ : ∃ B, w1.heap.size = B := ⟨_, rfl⟩
  have hGB : G < B := by have := heap_lt hx1; omega
  have HG := Lib.hid hG
  refine (wireNewEnc w1).mono ?_
  rw [hBB]
  rintro e w2 ⟨b, rfl, he, hm⟩
  have hB2 : B ≤ w2.heap.size := by have := hm.size; omega
  have hx := hm.keep hx1
  have hmm := hm1.thenNil hm
  have HE := Lib.hid he
  have HX := Lib.hid hx
  have HM := Lib.hid hmm
  have f0 := cell_of hx 0
  have f1 := cell_of hx 1
  simp only [List.getElem?_toArray, List.getElem?_cons_zero, List.getElem?_cons_succ] at f0 f1
  clear he hx hmm hm hx1 hm1 hw1 hG hBB
  go_wp2_with fail
  refine (encNum B b _ kind 1 w2 HE.out hB2 (by omega) (by omega) (by omega) (Nat.lt_of_le_of_lt h1 (by decide)) (by simp)).mono ?_
  rintro e w3 ⟨rfl, he, hm⟩
  have hB3 : B ≤ w3.heap.size := by have := hm.size; omega
  have hx : w3.heap[G]? = some (.cells #[.int .i64 kind, .slice pb nb cb] 36 (0, 0)) := (hm.block G (by have := heap_lt HX.out; omega) (by omega)).trans HX.out
  have hmm : Mod nil w w3 := HM.out.new hm (fun k h => by have := HG.out; omega)
  clear HE HX HM f0 f1
  have HE := Lib.hid he
  have HX := Lib.hid hx
  have HM := Lib.hid hmm
  have f0 := cell_of hx 0
  have f1 := cell_of hx 1
  simp only [List.getElem?_toArray, List.getElem?_cons_zero, List.getElem?_cons_succ] at f0 f1
  clear he hx hmm hm
  go_wp2_with fail
  refine (encNum B b _ nb 4 w3 HE.out hB3 (by omega) (by omega) (by omega) (Nat.lt_of_le_of_lt h4 (by decide)) (by simp [layC_length])).mono ?_
  rintro e w4 ⟨rfl, he, hm⟩
  have hB4 : B ≤ w4.heap.size := by have := hm.size; omega
  have hmm : Mod nil w w4 := HM.out.new hm (fun k h => by have := HG.out; omega)
  clear HE HX HM f0 f1
  have HE := Lib.hid he
  have HM := Lib.hid hmm
  clear he hmm hm
  go_wp2_with fail
  refine (encDone B b _ w4 HE.out (by simp [layC_length])).mono ?_
  rintro e w5 ⟨v, rfl, hv, hm⟩
  have hl : ([] ++ layC kind 1 1 ++ layC nb 4 4).length = 5 := by simp [layC_length]
  rw [hl] at hv
  have HEND := Lib.hid (HPOST.out _ _ ⟨v, rfl, hv.mono (fun k _ h => Nat.le_trans HM.out.size h), HM.out.thenNil hm⟩)
  clear hv hm hl
  go_wp2_with fail
  exact HEND.out
end Go.Proofs.YtjjcmdblohbneaaGreat

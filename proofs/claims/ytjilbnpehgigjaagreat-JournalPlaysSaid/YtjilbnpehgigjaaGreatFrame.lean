/- Package sha: NewTable, One. -/
import Derived.Test.YtjilbnpehgigjaaGreatShaSum
import Derived.Deep.QuietTactic
import Derived.BigQuiet
import Derived.Test.YtjilbnpehgigjaaGreatWire
namespace Go.Proofs.YtjilbnpehgigjaaGreat
open Go.RowKit

/-- the hash of a text -/
def shaOf (m : List UInt8) : List UInt8 := sumOf (m.drop (64 * (m.length / 64))) m.length (mixK m hV (m.length / 64))
theorem shaOf_length (m : List UInt8) : (shaOf m).length = 32 := sumOf_length _ _ _
theorem shaNewTable (w : World) : Calls Tryz.prog 6 #[] w fun e w' => ∃ tb, e = .returned (.pointer (some ⟨tb, 0, none⟩)) ∧ IsTab w' tb ∧ w.heap.size ≤ tb ∧ Mod nil w w' := by
  go_enter Tryz.func6, Tryz.ntmps6
  go_wp2_with fail
  go_ret
  refine ⟨w.heap.size, rfl, .inr ⟨List.replicate 64 0#32, List.replicate 8 0#32, by simp, by simp, ?_⟩, Nat.le_refl _, (Mod.refl _ _).alloc _⟩
  rw [heap_alloc_new]
  rfl
end Go.Proofs.YtjilbnpehgigjaaGreat

/- Hashing in several writes: the contracts of New, Write, Sum by the bytes that were written. -/
namespace Go.Proofs.YtjilbnpehgigjaaGreat
open Go.RowKit
theorem mixTake (A B : List UInt8) (v : V8) (q : Nat) (h : 64 * q ≤ A.length) : mixK (A ++ B) v q = mixK A v q := by
  induction q with
  | zero => rfl
  | succ q ih =>
    rw [mixK, mixK, ih (by omega), List.drop_append_of_le_length (by omega), List.take_append_of_le_length (by rw [List.length_drop]; omega)]
theorem mixAfter (A B : List UInt8) (v : V8) (q k : Nat) (h : A.length = 64 * q) : mixK (A ++ B) v (q + k) = mixK B (mixK A v q) k := by
  induction k with
  | zero => exact mixTake A B v q (by omega)
  | succ k ih =>
    rw [← Nat.add_assoc, mixK, mixK, ih, show 64 * (q + k) = A.length + 64 * k by omega, List.drop_length_add_append]
/-- a hash that has taken m -/
def IsHashOf (S : Nat → Prop) (w : World) (b tb : Nat) (m : List UInt8) : Prop :=
  ∃ rv, IsHash w b tb (mixK m hV (m.length / 64)) rv (m.length : Nat) ∧ IsVec S w 5 1 rv (m.drop (64 * (m.length / 64))).length (bys (m.drop (64 * (m.length / 64))))
theorem IsHashOf.mod {S T : Nat → Prop} {w w' : World} {b tb : Nat} {m : List UInt8} (h : IsHashOf S w b tb m) (d : Mod T w w') (hb : ¬ T b) (hs : ∀ k, k < w.heap.size → S k → ¬ T k) : IsHashOf S w' b tb m := by
  obtain ⟨rv, h1, h2⟩ := h
  exact ⟨rv, (d.block b (heap_lt h1) hb).trans h1, h2.mod d hs⟩
theorem IsHashOf.lt {S : Nat → Prop} {w : World} {b tb : Nat} {m : List UInt8} (h : IsHashOf S w b tb m) : b < w.heap.size := by
  obtain ⟨rv, h1, h2⟩ := h
  exact heap_lt h1
theorem shaNew2 (tb : Nat) (w : World) (ht : IsTab w tb) :
    Calls Tryz.prog 79 #[.pointer (some ⟨tb, 0, none⟩)] w fun e w' => ∃ b, e = .returned (.pointer (some ⟨b, 0, none⟩)) ∧ IsHashOf nil w' b tb [] ∧ w.heap.size ≤ b ∧ IsTab w' tb ∧ Mod (· = tb) w w' :=
  (shaNew tb w ht).mono fun _ _ ⟨b, h1, h2, h3, h4, h5⟩ => ⟨b, h1, ⟨_, h2, IsVec.nil _ _ _ _⟩, h3, full_tab h4, h5⟩
theorem shaWrite2 (b tb : Nat) (S T : Nat → Prop) (vb : Value) (m x : List UInt8) (w : World) (hh : IsHashOf S w b tb m) (hSb : ¬ S b) (hSt : ¬ S tb) (hne : tb ≠ b) (ht : IsTab w tb)
    (hrow : IsRow T w vb (bys x)) (hTb : ¬ T b) (hl : m.length + x.length ≤ 1099511627776) :
    Calls Tryz.prog 80 #[.pointer (some ⟨b, 0, none⟩), vb] w fun e w' => e = .returned (.tuple #[]) ∧ IsHashOf (fun k => w.heap.size ≤ k) w' b tb (m ++ x) ∧ IsTab w' tb ∧ Mod (fun k => k = tb ∨ k = b ∨ S k) w w' := by
  obtain ⟨rv, h1, h2⟩ := hh
  obtain ⟨q, hq⟩ : ∃ q, m.length / 64 = q := ⟨_, rfl⟩
  rw [hq] at h1 h2
  have hA : (m.take (64 * q)).length = 64 * q := by rw [List.length_take]; omega
  have hr : (m.drop (64 * q)).length = m.length - 64 * q := List.length_drop
  have hv : mixK m hV q = mixK (m.take (64 * q)) hV q := by
    have := mixTake (m.take (64 * q)) (m.drop (64 * q)) hV q (by omega)
    rwa [List.take_append_drop] at this
  have hsplit : m ++ x = m.take (64 * q) ++ (m.drop (64 * q) ++ x) := by rw [← List.append_assoc, List.take_append_drop]
  have hlen : (m ++ x).length / 64 = q + (m.drop (64 * q) ++ x).length / 64 := by rw [List.length_append, List.length_append, hr]; omega
  have hmix : mixK (m.drop (64 * q) ++ x) (mixK m hV q) ((m.drop (64 * q) ++ x).length / 64) = mixK (m ++ x) hV ((m ++ x).length / 64) := by
    rw [hlen, hsplit, mixAfter _ _ _ _ _ hA, hv]
  have hdrop : (m.drop (64 * q) ++ x).drop (64 * ((m.drop (64 * q) ++ x).length / 64)) = (m ++ x).drop (64 * ((m ++ x).length / 64)) := by
    rw [hlen, hsplit, Nat.mul_add]
    generalize m.drop (64 * q) ++ x = y
    generalize hA' : m.take (64 * q) = A at hA
    rw [show 64 * q + 64 * (y.length / 64) = A.length + 64 * (y.length / 64) by omega, List.drop_length_add_append]
  refine (shaWrite b tb (mixK m hV q) S T rv vb (m.drop (64 * q)) x m.length w h1 h2 hSb hSt hne ht hrow hTb (by rw [hr]; omega) (by omega)).mono ?_
  rintro e w' ⟨rfl, ⟨rv', k1, k2⟩, k3, k4⟩
  rw [hmix] at k1
  rw [hdrop] at k2
  rw [← List.length_append] at k1
  exact ⟨rfl, ⟨rv', k1, k2⟩, k3, k4⟩
theorem shaSum2 (b tb : Nat) (S : Nat → Prop) (m : List UInt8) (w : World) (hh : IsHashOf S w b tb m) (hne : tb ≠ b) (ht : IsTab w tb) (hm : m.length ≤ 1099511627000) :
    Calls Tryz.prog 81 #[.pointer (some ⟨b, 0, none⟩)] w fun e w' => ∃ v', e = .returned v' ∧ IsVec (fun k => w.heap.size ≤ k) w' 5 1 v' 32 (bys (shaOf m)) ∧ IsTab w' tb ∧ Mod (· = tb) w w' := by
  obtain ⟨rv, h1, h2⟩ := hh
  exact shaSum b tb _ S rv _ m.length w h1 h2 hne ht (by rw [List.length_drop]; omega) (by omega)
end Go.Proofs.YtjilbnpehgigjaaGreat

/- The document's hash (cflref1.Hash): the same law. -/
namespace Go.Proofs.YtjilbnpehgigjaaGreat
open Go.RowKit

theorem refTurn (x : BitVec 32) (n : Int) (h0 : 0 < n) (h1 : n < 32) (w : World) : Calls Tryz.prog 106 #[.int .u32 (u x), .int .u64 n] w fun e w' => e = .returned (.int .u32 (u (ror x n.toNat))) ∧ w = w' := by
  obtain ⟨k, rfl⟩ : ∃ k : Nat, n = k := ⟨n.toNat, by omega⟩
  obtain ⟨m, hm⟩ : ∃ m : Nat, 32 - k = m := ⟨_, rfl⟩
  have e1 : (32 - (k : Int)) % 18446744073709551616 = (m : Int) := by omega
  have e2 : IntKind.u64.wrap (32 - (k : Int)) = (m : Int) := by rw [IntKind.wrap_u64]; exact e1
  have e3 : u x / 2 ^ k = u (x >>> k) := by have := u_shr x k; rw [← this]; push_cast; rfl
  have e4 : u x * 2 ^ m % 4294967296 = u (x <<< m) := by have := u_shl x m; rw [← this]; push_cast; rfl
  have e4' : IntKind.u32.wrap (u x * 2 ^ m) = u (x <<< m) := by rw [IntKind.wrap_u32]; exact e4
  have e5 := u_or (x >>> k) (x <<< m)
  have e6 : x >>> k ||| x <<< m = ror x k := by rw [ror, hm, BitVec.or_comm]
  rw [e6] at e5
  have hk : ¬ (32 : Int) < (k : Int) := by omega
  have hmm : (m : Int) ≤ 32 := by omega
  have hk' : (k : Int) ≤ 32 := by omega
  have h1 := u_lo x
  have h2 := u_hi x
  rw [Int.toNat_natCast]
  clear hm e6
  go_enter Tryz.func106, Tryz.ntmps106
  go_wp2_with fail
  go_ret
  exact ⟨rfl, rfl⟩
theorem kTab_lit : (wc kTab).toArray = #[.int .u32 1116352408, .int .u32 1899447441, .int .u32 3049323471, .int .u32 3921009573, .int .u32 961987163, .int .u32 1508970993, .int .u32 2453635748, .int .u32 2870763221, .int .u32 3624381080, .int .u32 310598401, .int .u32 607225278, .int .u32 1426881987, .int .u32 1925078388, .int .u32 2162078206, .int .u32 2614888103, .int .u32 3248222580, .int .u32 3835390401, .int .u32 4022224774, .int .u32 264347078, .int .u32 604807628, .int .u32 770255983, .int .u32 1249150122, .int .u32 1555081692, .int .u32 1996064986, .int .u32 2554220882, .int .u32 2821834349, .int .u32 2952996808, .int .u32 3210313671, .int .u32 3336571891, .int .u32 3584528711, .int .u32 113926993, .int .u32 338241895, .int .u32 666307205, .int .u32 773529912, .int .u32 1294757372, .int .u32 1396182291, .int .u32 1695183700, .int .u32 1986661051, .int .u32 2177026350, .int .u32 2456956037, .int .u32 2730485921, .int .u32 2820302411, .int .u32 3259730800, .int .u32 3345764771, .int .u32 3516065817, .int .u32 3600352804, .int .u32 4094571909, .int .u32 275423344, .int .u32 430227734, .int .u32 506948616, .int .u32 659060556, .int .u32 883997877, .int .u32 958139571, .int .u32 1322822218, .int .u32 1537002063, .int .u32 1747873779, .int .u32 1955562222, .int .u32 2024104815, .int .u32 2227730452, .int .u32 2361852424, .int .u32 2428436474, .int .u32 2756734187, .int .u32 3204031479, .int .u32 3329325298] := by kernel_rfl
theorem hTab_lit : (wc hTab).toArray = #[.int .u32 1779033703, .int .u32 3144134277, .int .u32 1013904242, .int .u32 2773480762, .int .u32 1359893119, .int .u32 2600822924, .int .u32 528734635, .int .u32 1541459225] := by kernel_rfl
theorem info_a8 : (Tryz.prog.info? 77).map (·.size) = some 8 := by kernel_rfl
theorem info_a64 : (Tryz.prog.info? 76).map (·.size) = some 64 := by kernel_rfl
set_option maxRecDepth 100000 in
theorem refStarts (w : World) : Calls Tryz.prog 85 #[] w fun e w' => e = .returned (.agg (wc hTab).toArray) ∧ Mod nil w w' := by
  rw [hTab_lit]
  go_enter Tryz.func85, Tryz.ntmps85
  go_wp2_with fail
  refine bodyPost_ret (results_cell_row rfl _ _ w.heap.size 77 _ (0, 0) _ rfl (heap_alloc_new w _) Tryz.underlying77 rfl info_a8) rfl ?_
  exact ⟨rfl, (Mod.refl _ _).alloc _⟩
set_option maxRecDepth 100000 in
theorem refWords (w : World) : Calls Tryz.prog 84 #[] w fun e w' => e = .returned (.agg (wc kTab).toArray) ∧ Mod nil w w' := by
  obtain ⟨cs, hcs⟩ : ∃ cs, (wc kTab).toArray = cs := ⟨_, rfl⟩
  have hsize : 64 = cs.size := by rw [← hcs, List.size_toArray, wc_length, kTab_length]
  have hone : cs.all (·.oneCell') = true := by rw [← hcs]; kernel_rfl
  have HCS := Lib.hid hcs
  rw [hcs]
  go_enter Tryz.func84, Tryz.ntmps84
  go_upto_region 1 with (fail)
  obtain ⟨g, hg⟩ : ∃ g, w.heap.size = g := ⟨_, rfl⟩
  generalize hw1 : w.alloc _ = w1
  have HG1 : Hid (w1.heap[g]? = some (.cells (List.replicate 64 (Value.int .u32 0)).toArray 76 (0, 0))) := Lib.hid (by rw [← hw1, ← hg, heap_alloc_new]; rfl)
  have hm1 : Mod nil w (w1.setRow g cs) := by
    have h2 : Mod nil w w1 := by rw [← hw1]; exact (Mod.refl _ _).alloc _
    exact ⟨h2.os, h2.tape, h2.output, by simpa [World.setRow] using h2.size, fun k hk _ => (setRow_other w1 g k cs (by omega)).trans (h2.block k hk (not_nil _))⟩
  have HM1 := Lib.hid hm1
  rw [hg]
  clear hw1 hm1 hcs hg
  go_wp2_with (first
    | (refine wpList_build rfl _ _ rfl (by kernel_rfl) ?_)
    | (refine wpList_store_row rfl _ _ _ rfl g cs rfl (by rw [← HCS.out]; kernel_rfl) 76 _ HG1.out (by rw [info_a64, hsize]) (by simp [← hsize]) hone ?_))
  refine bodyPost_ret (results_cell_row rfl _ _ g 76 cs (0, 0) _ rfl (setRow_heap w1 g _ cs _ _ HG1.out) Tryz.underlying76 rfl (by rw [info_a64, hsize])) rfl ?_
  exact ⟨rfl, HM1.out⟩
end Go.Proofs.YtjilbnpehgigjaaGreat

/- Package frame: starts, text, Sectors. (Printed by wip/tools/gen_frame.py.) -/
namespace Go.Proofs.YtjilbnpehgigjaaGreat
open Go.RowKit
/-- what stands ahead of a frame's sum -/
def startsF (kind gen seq n : Nat) : List UInt8 := [] ++ layC 25446 2 2 ++ layC kind 1 1 ++ layC 0 1 1 ++ layC gen 4 4 ++ layC seq 4 4 ++ layC n 4 4
theorem startsF_length (kind gen seq n : Nat) : (startsF kind gen seq n).length = 16 := by simp [startsF, layC_length]
/-- a frame's text -/
def textF (kind gen seq : Nat) (body : List UInt8) : List UInt8 := startsF kind gen seq body.length ++ (shaOf (startsF kind gen seq body.length ++ body)).take 8 ++ body
theorem textF_length (kind gen seq : Nat) (body : List UInt8) : (textF kind gen seq body).length = 24 + body.length := by simp [textF, startsF_length, shaOf_length]; omega
/-- how many sectors a body needs -/
def sectorsF (n : Nat) : Nat := (n + 86) / 63
theorem frameSectors (n : Int) (w : World) : Calls Tryz.prog 58 #[.int .i64 n] w fun e w' => e = .returned (.int .i64 (if 0 ≤ n ∧ n ≤ 60000 then sectorsF n.toNat else 0 : Nat)) ∧ w = w' := by
  rcases (show n < 0 ∨ (¬ n < 0 ∧ 60000 < n) ∨ (¬ n < 0 ∧ ¬ 60000 < n) by omega) with h | ⟨h, h'⟩ | ⟨h, h'⟩
  · rw [if_neg (by omega)]
    go_enter Tryz.func58, Tryz.ntmps58
    go_wp2_with fail
    go_ret
    exact ⟨rfl, rfl⟩
  · rw [if_neg (by omega)]
    go_enter Tryz.func58, Tryz.ntmps58
    go_wp2_with fail
    go_ret
    exact ⟨rfl, rfl⟩
  · obtain ⟨k, rfl⟩ : ∃ k : Nat, n = k := ⟨n.toNat, by omega⟩
    rw [if_pos (by omega), Int.toNat_natCast]
    have hk : ((24 + (k : Int) + 63 - 1) / 63 : Int) = ((sectorsF k : Nat) : Int) := by unfold sectorsF; omega
    go_enter Tryz.func58, Tryz.ntmps58
    go_wp2_with fail
    go_ret
    exact ⟨rfl, rfl⟩
set_option maxRecDepth 100000 in
set_option maxHeartbeats 1000000 in
theorem frameStarts (kind gen seq nb cb : Nat) (pb : Option Addr) (w : World) (h1 : kind ≤ 255) (h2 : gen ≤ 4294967295) (h3 : seq ≤ 4294967295) (h4 : nb ≤ 60000) :
    Calls Tryz.prog 78 #[.agg #[.int .i64 kind, .int .i64 gen, .int .i64 seq, .slice pb nb cb]] w fun e w' => ∃ v, e = .returned v ∧ IsVec (fun k => w.heap.size ≤ k) w' 5 1 v 16 (bys (startsF kind gen seq nb)) ∧ Mod nil w w' := by
  refine (?_ : ∀ Post : Ending → World → Prop, Hid (∀ e w', (∃ v, e = .returned v ∧ IsVec (fun k => w.heap.size ≤ k) w' 5 1 v 16 (bys (startsF kind gen seq nb)) ∧ Mod nil w w') → Post e w') → Calls Tryz.prog 78 #[.agg #[.int .i64 kind, .int .i64 gen, .int .i64 seq, .slice pb nb cb]] w Post) _ (Lib.hid (fun _ _ h => h))
  intro Post HPOST
  go_enter Tryz.func78, Tryz.ntmps78
  go_wp2_with fail
  obtain ⟨G, hG⟩ : ∃ G, w.heap.size = G := ⟨_, rfl⟩
  rw [hG]
  generalize hw1 : World.alloc w _ = w1
  have hx1 : w1.heap[G]? = some (.cells #[.int .i64 kind, .int .i64 gen, .int .i64 seq, .slice pb nb cb] 37 (0, 0)) := by rw [← hw1, ← hG]; exact heap_alloc_new _ _
  have hm1 : Mod nil w w1 := by rw [← hw1]; exact (Mod.refl _ _).alloc _
  obtain ⟨B, hBB⟩ : ∃ B, w1.heap.size = B := ⟨_, rfl⟩
  have hGB : G < B := by have := heap_lt hx1; omega
  have HG := Lib.hid hG
  refine (wireNewEnc w1).mono ?_
  rw [hBB]
  rintro e w2 ⟨b, rfl, he, hm⟩
  have hB2 : B ≤ w2.heap.size := by have := hm.size; omega
  have hx := hm.keep hx1
  have hmm := hm1.thenNil hm
  have HE := Lib.hid he
  have HX := Lib.hid hx
  have HM := Lib.hid hmm
  have f0 := cell_of hx 0
  have f1 := cell_of hx 1
  have f2 := cell_of hx 2
  have f3 := cell_of hx 3
  simp only [List.getElem?_toArray, List.getElem?_cons_zero, List.getElem?_cons_succ] at f0 f1 f2 f3
  clear he hx hmm hm hx1 hm1 hw1 hG hBB
  go_wp2_with fail
  refine (encNum B b _ 25446 2 w2 HE.out hB2 (by omega) (by omega) (by omega) (by decide) (by simp [layC_length])).mono ?_
  rintro e w3 ⟨rfl, he, hm⟩
  have hB3 : B ≤ w3.heap.size := by have := hm.size; omega
  have hx : w3.heap[G]? = some (.cells #[.int .i64 kind, .int .i64 gen, .int .i64 seq, .slice pb nb cb] 37 (0, 0)) := (hm.block G (by have := heap_lt HX.out; omega) (by omega)).trans HX.out
  have hmm : Mod nil w w3 := HM.out.new hm (fun k h => by have := HG.out; omega)
  clear HE HX HM f0 f1 f2 f3
  have HE := Lib.hid he
  have HX := Lib.hid hx
  have HM := Lib.hid hmm
  have f0 := cell_of hx 0
  have f1 := cell_of hx 1
  have f2 := cell_of hx 2
  have f3 := cell_of hx 3
  simp only [List.getElem?_toArray, List.getElem?_cons_zero, List.getElem?_cons_succ] at f0 f1 f2 f3
  clear he hx hmm hm
  go_wp2_with fail
  refine (encNum B b _ kind 1 w3 HE.out hB3 (by omega) (by omega) (by omega) (Nat.lt_of_le_of_lt h1 (by decide)) (by simp [layC_length])).mono ?_
  rintro e w4 ⟨rfl, he, hm⟩
  have hB4 : B ≤ w4.heap.size := by have := hm.size; omega
  have hx : w4.heap[G]? = some (.cells #[.int .i64 kind, .int .i64 gen, .int .i64 seq, .slice pb nb cb] 37 (0, 0)) := (hm.block G (by have := heap_lt HX.out; omega) (by omega)).trans HX.out
  have hmm : Mod nil w w4 := HM.out.new hm (fun k h => by have := HG.out; omega)
  clear HE HX HM f0 f1 f2 f3
  have HE := Lib.hid he
  have HX := Lib.hid hx
  have HM := Lib.hid hmm
  have f0 := cell_of hx 0
  have f1 := cell_of hx 1
  have f2 := cell_of hx 2
  have f3 := cell_of hx 3
  simp only [List.getElem?_toArray, List.getElem?_cons_zero, List.getElem?_cons_succ] at f0 f1 f2 f3
  clear he hx hmm hm
  go_wp2_with fail
  refine (encNum B b _ 0 1 w4 HE.out hB4 (by omega) (by omega) (by omega) (by decide) (by simp [layC_length])).mono ?_
  rintro e w5 ⟨rfl, he, hm⟩
  have hB5 : B ≤ w5.heap.size := by have := hm.size; omega
  have hx : w5.heap[G]? = some (.cells #[.int .i64 kind, .int .i64 gen, .int .i64 seq, .slice pb nb cb] 37 (0, 0)) := (hm.block G (by have := heap_lt HX.out; omega) (by omega)).trans HX.out
  have hmm : Mod nil w w5 := HM.out.new hm (fun k h => by have := HG.out; omega)
  clear HE HX HM f0 f1 f2 f3
  have HE := Lib.hid he
  have HX := Lib.hid hx
  have HM := Lib.hid hmm
  have f0 := cell_of hx 0
  have f1 := cell_of hx 1
  have f2 := cell_of hx 2
  have f3 := cell_of hx 3
  simp only [List.getElem?_toArray, List.getElem?_cons_zero, List.getElem?_cons_succ] at f0 f1 f2 f3
  clear he hx hmm hm
  go_wp2_with fail
  refine (encNum B b _ gen 4 w5 HE.out hB5 (by omega) (by omega) (by omega) (Nat.lt_of_le_of_lt h2 (by decide)) (by simp [layC_length])).mono ?_
  rintro e w6 ⟨rfl, he, hm⟩
  have hB6 : B ≤ w6.heap.size := by have := hm.size; omega
  have hx : w6.heap[G]? = some (.cells #[.int .i64 kind, .int .i64 gen, .int .i64 seq, .slice pb nb cb] 37 (0, 0)) := (hm.block G (by have := heap_lt HX.out; omega) (by omega)).trans HX.out
  have hmm : Mod nil w w6 := HM.out.new hm (fun k h => by have := HG.out; omega)
  clear HE HX HM f0 f1 f2 f3
  have HE := Lib.hid he
  have HX := Lib.hid hx
  have HM := Lib.hid hmm
  have f0 := cell_of hx 0
  have f1 := cell_of hx 1
  have f2 := cell_of hx 2
  have f3 := cell_of hx 3
  simp only [List.getElem?_toArray, List.getElem?_cons_zero, List.getElem?_cons_succ] at f0 f1 f2 f3
  clear he hx hmm hm
  go_wp2_with fail
  refine (encNum B b _ seq 4 w6 HE.out hB6 (by omega) (by omega) (by omega) (Nat.lt_of_le_of_lt h3 (by decide)) (by simp [layC_length])).mono ?_
  rintro e w7 ⟨rfl, he, hm⟩
  have hB7 : B ≤ w7.heap.size := by have := hm.size; omega
  have hx : w7.heap[G]? = some (.cells #[.int .i64 kind, .int .i64 gen, .int .i64 seq, .slice pb nb cb] 37 (0, 0)) := (hm.block G (by have := heap_lt HX.out; omega) (by omega)).trans HX.out
  have hmm : Mod nil w w7 := HM.out.new hm (fun k h => by have := HG.out; omega)
  clear HE HX HM f0 f1 f2 f3
  have HE := Lib.hid he
  have HX := Lib.hid hx
  have HM := Lib.hid hmm
  have f0 := cell_of hx 0
  have f1 := cell_of hx 1
  have f2 := cell_of hx 2
  have f3 := cell_of hx 3
  simp only [List.getElem?_toArray, List.getElem?_cons_zero, List.getElem?_cons_succ] at f0 f1 f2 f3
  clear he hx hmm hm
  go_wp2_with fail
  refine (encNum B b _ nb 4 w7 HE.out hB7 (by omega) (by omega) (by omega) (Nat.lt_of_le_of_lt h4 (by decide)) (by simp [layC_length])).mono ?_
  rintro e w8 ⟨rfl, he, hm⟩
  have hB8 : B ≤ w8.heap.size := by have := hm.size; omega
  have hx : w8.heap[G]? = some (.cells #[.int .i64 kind, .int .i64 gen, .int .i64 seq, .slice pb nb cb] 37 (0, 0)) := (hm.block G (by have := heap_lt HX.out; omega) (by omega)).trans HX.out
  have hmm : Mod nil w w8 := HM.out.new hm (fun k h => by have := HG.out; omega)
  clear HE HX HM f0 f1 f2 f3
  have HE := Lib.hid he
  have HX := Lib.hid hx
  have HM := Lib.hid hmm
  have f0 := cell_of hx 0
  have f1 := cell_of hx 1
  have f2 := cell_of hx 2
  have f3 := cell_of hx 3
  simp only [List.getElem?_toArray, List.getElem?_cons_zero, List.getElem?_cons_succ] at f0 f1 f2 f3
  clear he hx hmm hm
  go_wp2_with fail
  refine (encDone B b _ w8 HE.out (by simp [layC_length])).mono ?_
  rintro e w9 ⟨v, rfl, hv, hm⟩
  have hvf : IsVec (fun k => w.heap.size ≤ k) w9 5 1 v 16 (bys (startsF kind gen seq nb)) := by
    have h := hv.mono (T := fun k => w.heap.size ≤ k) (fun k _ h => Nat.le_trans HM.out.size h)
    simpa [layC_length, startsF] using h
  have HF := Lib.hid (And.intro hvf (HM.out.thenNil hm))
  clear hvf hv hm
  go_wp2_with fail
  exact HPOST.out _ _ ⟨v, rfl, HF.out.1, HF.out.2⟩
end Go.Proofs.YtjilbnpehgigjaaGreat

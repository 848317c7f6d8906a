/- Package sha: a number's bytes are laid. -/
import Derived.Test.YtjilbnpehgigjaaGreatRdB
import Derived.Test.YtjilbnpehgigjaaGreatShaTab
import Derived.Test.YtjilbnpehgigjaaGreatShaMix
import Derived.Test.YtjilbnpehgigjaaGreatShort
import Derived.Test.YtjilbnpehgigjaaGreatRd
namespace Go.Proofs.YtjilbnpehgigjaaGreat
open Go.RowKit

def byteAt (n k : Nat) : UInt8 := UInt8.ofNat (n / 2 ^ (8 * k))
/-- the first c bytes of so many -/
def layC (n size c : Nat) : List UInt8 := (List.range c).map (fun j => byteAt n (size - 1 - j))
theorem layC_succ (n size c : Nat) : layC n size (c + 1) = layC n size c ++ [byteAt n (size - 1 - c)] := by simp [layC, List.range_succ]
theorem layC_length (n size c : Nat) : (layC n size c).length = c := by simp [layC]
theorem byteAt_nat (n k : Nat) : ((byteAt n k).toNat : Int) = ((n / 2 ^ (8 * k) % 256 : Nat) : Int) := by simp [byteAt]
theorem row_one {w : World} (b : UInt8) (g : Nat) (hg : w.heap.size = g) : IsRow (· = g) (w.alloc (.cells #[.int .u8 b.toNat] 5)) (.slice (some ⟨g, 0, none⟩) 1 1) (bys [b]) := by
  subst hg
  have h : (w.alloc (.cells #[.int .u8 b.toNat] 5)).heap[w.heap.size]? = some (.cells (bys [b]).toArray 5 (0, 0)) := heap_alloc_new w _
  exact IsRow.ofBlock (S := (· = w.heap.size)) h rfl 1 1 rfl
set_option maxRecDepth 100000 in
set_option maxHeartbeats 1000000 in
theorem shaLays (S : Nat → Prop) (v : Value) (l : List UInt8) (n size : Nat) (w : World) (hv : IsVec S w 5 1 v l.length (bys l)) (hn : n < 18446744073709551616) (hs : size ≤ 8) (hl : l.length ≤ 1099511627776) :
    Calls Tryz.prog 104 #[v, .int .u64 n, .int .i64 size] w fun e w' => ∃ v', e = .returned v' ∧ IsVec (fun k => S k ∨ w.heap.size ≤ k) w' 5 1 v' (l ++ layC n size size).length (bys (l ++ layC n size size)) ∧ Mod S w w' := by
  have HV := Lib.hid hv
  clear hv
  go_enter Tryz.func104, Tryz.ntmps104
  go_wp2_with fail
  go_loopw [0, 7] (fun v0 v7 wr => ∃ (c : Nat) (x : Int), c ≤ size ∧ v7 = .int .i64 x ∧ x = (size : Int) - 1 - c ∧ Hid (IsVec (fun k => S k ∨ w.heap.size ≤ k) wr 5 1 v0 (l ++ layC n size c).length (bys (l ++ layC n size c))) ∧ Hid (Mod S w wr)) (fun _ v _ => (intOf v + 1).toNat)
  case atStart => exact ⟨0, _, by omega, rfl, by omega, Lib.hid (by simpa [layC] using HV.out.mono (fun _ _ h => .inl h)), Lib.hid (Mod.refl _ _)⟩
  case round =>
    obtain ⟨c, x, hc, rfl, hx, HVC, HMC⟩ := hrel
    by_cases hlt : c < size
    · obtain ⟨k, rfl⟩ : ∃ k : Nat, x = k := ⟨size - 1 - c, by omega⟩
      have hk : size - 1 - c = k := by omega
      have hvc := HVC.out
      obtain ⟨N, hN⟩ : ∃ N, (l ++ layC n size c).length = N := ⟨_, rfl⟩
      have hNl : N ≤ 1099511627784 := by rw [← hN, List.length_append, layC_length]; omega
      have hnext : l ++ layC n size (c + 1) = (l ++ layC n size c) ++ [byteAt n k] := by rw [layC_succ, hk, List.append_assoc]
      have hb := byteAt_nat n k
      have hbi : ((n / 2 ^ (8 * k) % 256 : Nat) : Int) = (n : Int) / 2 ^ (8 * k) % 256 := by simp
      rw [hbi] at hb
      have hk8 : k < 8 := by omega
      have hx0 : 0 ≤ (size : Int) - 1 - (c : Int) := by omega
      have hm0 : Mod nil wr (wr.alloc (.cells #[.int .u8 (byteAt n k).toNat] 5)) := (Mod.refl nil wr).alloc _
      obtain ⟨v7, w7, hrun, hvec, hmod⟩ := bytes_append (l := l ++ layC n size c) (m := [byteAt n k]) 22 (hvc.modNil hm0) (row_one (byteAt n k) _ rfl) (by rw [hN]; simp; omega)
      have hlen : (l ++ layC n size (c + 1)).length = N + 1 := by rw [hnext, List.length_append, hN]; rfl
      rw [← hnext, hlen] at hvec
      obtain ⟨p7, c7, rfl⟩ := hvec.form
      rw [hb] at hrun
      have HLEN := Lib.hid hlen
      clear hlen
      have HRUN := Lib.hid hrun
      have HVEC := Lib.hid (hvec.mono (T := fun k => S k ∨ w.heap.size ≤ k) (fun j _ h => h.elim id (fun h => .inr (by have := HMC.out.size; have := hm0.size; omega))))
      have HMOD : Hid (Mod S w w7) := Lib.hid ((HMC.out.thenNil hm0).trans hmod (fun i hi h => h.elim id (fun h => by omega)))
      rw [hN] at hvc
      obtain ⟨pv, cv, rfl⟩ := hvc.form
      clear hvc hN hnext hb hbi hm0 hrun hvec hmod
      have HX := Lib.hid hx
      have HK := Lib.hid hk
      clear hx hk
      go_wp2_with (first | (at_builtin; refine wpList_append_run rfl _ _ _ _ rfl rfl rfl HRUN.out ?_))
      exact ⟨⟨c + 1, _, by omega, rfl, by have := HX.out; omega, Lib.hid (by rw [HLEN.out]; exact HVEC.out), HMOD⟩, by simp [intOf] <;> omega⟩
    · obtain rfl : c = size := by omega
      obtain rfl : x = -1 := by omega
      go_wp2_with fail
      go_ret
      exact ⟨_, rfl, HVC.out, HMC.out⟩
end Go.Proofs.YtjilbnpehgigjaaGreat

/- A number as so many bytes. -/
namespace Go.Proofs.YtjilbnpehgigjaaGreat
open Go.RowKit
/-- a number as so many bytes -/
def nb (n : Int) (k : Nat) : List UInt8 := layC n.toNat k k
theorem nb_length (n : Int) (k : Nat) : (nb n k).length = k := layC_length _ _ _
end Go.Proofs.YtjilbnpehgigjaaGreat

/- Package sha: New. -/
namespace Go.Proofs.YtjilbnpehgigjaaGreat
open Go.RowKit

/-- the cells of a Hash -/
def hashOf (tb : Nat) (l : List (BitVec 32)) (rest : Value) (n : Int) : Array Value := ([Value.pointer (some ⟨tb, 0, none⟩)] ++ (wc l ++ [rest, .int .u64 n])).toArray
theorem hash_h (tb : Nat) (l : List (BitVec 32)) (rest : Value) (n : Int) (i : Nat) (hi : i < l.length) : (hashOf tb l rest n)[1 + i]? = some (.int .u32 (u (l.getD i 0))) := by
  simp only [hashOf, List.getElem?_toArray]
  rw [List.getElem?_append_right (by simp), List.getElem?_append_left (by simp [wc]; omega)]
  simp only [List.length_cons, List.length_nil]
  rw [show 1 + i - (0 + 1) = i by omega]
  exact wc_get l i hi
theorem hash_set (tb : Nat) (l : List (BitVec 32)) (rest : Value) (n : Int) (i : Nat) (hi : i < l.length) (x : BitVec 32) : (hashOf tb l rest n).setIfInBounds (1 + i) (.int .u32 (u x)) = hashOf tb (l.set i x) rest n := by
  simp only [hashOf, List.setIfInBounds_toArray]
  congr 1
  rw [List.set_append_right _ _ (by simp), List.set_append_left _ _ (by simp [wc]; omega)]
  simp only [List.length_cons, List.length_nil]
  rw [show 1 + i - (0 + 1) = i by omega, wc_set]
/-- a Hash in block b -/
def IsHash (w : World) (b tb : Nat) (v : V8) (rest : Value) (n : Int) : Prop := w.heap[b]? = some (.cells (hashOf tb v.list rest n) 152 (0, 0))
/-- the state that a hash begins with -/
def hV : V8 := ⟨hTab.getD 0 0, hTab.getD 1 0, hTab.getD 2 0, hTab.getD 3 0, hTab.getD 4 0, hTab.getD 5 0, hTab.getD 6 0, hTab.getD 7 0⟩
theorem list8 (l : List (BitVec 32)) (h : l.length = 8) : l = [l.getD 0 0, l.getD 1 0, l.getD 2 0, l.getD 3 0, l.getD 4 0, l.getD 5 0, l.getD 6 0, l.getD 7 0] := by
  match l, h with
  | [a, b, c, d, e, f, g, h], _ => rfl
theorem hV_list : hTab = hV.list := list8 hTab hTab_length
set_option maxRecDepth 100000 in
set_option maxHeartbeats 2000000 in
theorem shaNew (tb : Nat) (w : World) (ht : IsTab w tb) :
    Calls Tryz.prog 79 #[.pointer (some ⟨tb, 0, none⟩)] w fun e w' => ∃ b, e = .returned (.pointer (some ⟨b, 0, none⟩)) ∧ IsHash w' b tb hV (.slice none 0 0) 0 ∧ w.heap.size ≤ b ∧ IsFull w' tb ∧ Mod (· = tb) w w' := by
  have HT := Lib.hid ht
  clear ht
  refine (?_ : ∀ Post : Ending → World → Prop, Hid (∀ e w', (∃ b, e = .returned (.pointer (some ⟨b, 0, none⟩)) ∧ IsHash w' b tb hV (.slice none 0 0) 0 ∧ w.heap.size ≤ b ∧ IsFull w' tb ∧ Mod (· = tb) w w') → Post e w') → Calls Tryz.prog 79 #[.pointer (some ⟨tb, 0, none⟩)] w Post) _ (Lib.hid (fun _ _ h => h))
  intro Post HPOST
  go_enter Tryz.func79, Tryz.ntmps79
  go_upto_region 2 with (fail)
  obtain ⟨g, hg⟩ : ∃ g, w.heap.size = g := ⟨_, rfl⟩
  generalize hw1 : w.alloc _ = w1
  have HH1 : Hid (w1.heap[g]? = some (.cells (hashOf tb (hTab.take 0 ++ (List.replicate 8 0#32).drop 0) (.slice none 0 0) 0) 152 (0, 0))) := Lib.hid (by rw [← hw1, ← hg, heap_alloc_new]; rfl)
  have hm1 : Mod nil w w1 := by rw [← hw1]; exact (Mod.refl _ _).alloc _
  have HM1 : Hid (Mod (· = tb) w w1) := Lib.hid hm1.ofNil
  have HT1 := Lib.hid (HT.out.mod hm1 (not_nil _))
  have HGB : Hid (w.heap.size = g) := Lib.hid hg
  have htg : tb < g := by have := HT.out.lt; omega
  rw [hg]
  clear hw1 hg hm1 HT
  go_wp2_with fail
  go_loopw [8] (fun v8 wr => ∃ i : Nat, i ≤ 8 ∧ v8 = .int .i64 i ∧ Hid (wr.heap[g]? = some (.cells (hashOf tb (hTab.take i ++ (List.replicate 8 0#32).drop i) (.slice none 0 0) 0) 152 (0, 0))) ∧ Hid (IsTab wr tb ∧ (0 < i → IsFull wr tb)) ∧ Hid (Mod (· = tb) w wr)) (fun v _ => 8 - (intOf v).toNat)
  case atStart => exact ⟨0, by omega, rfl, HH1, Lib.hid ⟨HT1.out, fun h => by omega⟩, HM1⟩
  case round =>
    obtain ⟨i, hi, rfl, HHR, HTR, HMR⟩ := hrel
    by_cases hlt : i < 8
    · have hbi : decide ((i : Int) < 8) = true := by simp; omega
      have hib : (i : Int) < 8 := by omega
      have hlen : (hTab.take i ++ (List.replicate 8 0#32).drop i).length = 8 := by simp [hTab_length]; omega
      obtain ⟨x, hx⟩ : ∃ x, hTab.getD i 0 = x := ⟨_, rfl⟩
      have hset : (hTab.take i ++ (List.replicate 8 0#32).drop i).set i x = hTab.take (i + 1) ++ (List.replicate 8 0#32).drop (i + 1) := by
        have h := take_set hTab (List.replicate 8 0#32) i (by rw [hTab_length]; exact hlt) (by simpa using hlt)
        rw [← h, ← hx, List.getD_eq_getElem?_getD, List.getElem?_eq_getElem (by rw [hTab_length]; exact hlt)]
        rfl
      obtain ⟨L, hL⟩ : ∃ L, hTab.take i ++ (List.replicate 8 0#32).drop i = L := ⟨_, rfl⟩
      rw [hL] at HHR hlen hset
      have HX := Lib.hid hx
      have HSET := Lib.hid hset
      clear hx hset hL
      go_upto_region 5 with (fail)
      go_region_held3 (fun _ => True) (trivial) (first
        | (go_at_call 102; refine (shaStart tb i hlt _ (HTR.out.1.mod (Mod.refl Go.Proofs.YtjilbnpehgigjaaGreat.nil wr).drew (not_nil _))).mono ?_; rw [HX.out]; rintro e w6 ⟨rfl, hf6, hm6⟩; have HF6 := Lib.hid hf6; have HM6 := Lib.hid hm6; have HH6 := Lib.hid ((hm6.block g (heap_lt HHR.out) (by omega)).trans HHR.out); have qc := (cell_of HH6.out (1 + i)).trans (hash_h tb _ _ _ i (by omega)); have qf := free_of HH6.out (1 + i); clear hf6 hm6))
      have HST : Hid ((w6.setCell ⟨g, 1 + i, none⟩ (.int .u32 (u x))).heap[g]? = some (.cells (hashOf tb (hTab.take (i + 1) ++ (List.replicate 8 0#32).drop (i + 1)) (.slice none 0 0) 0) 152 (0, 0))) := Lib.hid (by
        rw [heap_setCell_same HH6.out, hash_set tb _ _ _ i (by omega), HSET.out])
      have HFST : Hid (IsFull (w6.setCell ⟨g, 1 + i, none⟩ (.int .u32 (u x))) tb) := Lib.hid ((heap_setCell_other _ (by omega)).trans HF6.out)
      have HMST : Hid (Mod (· = tb) w (w6.setCell ⟨g, 1 + i, none⟩ (.int .u32 (u x)))) := Lib.hid ((HMR.out.drew.trans HM6.out (fun _ _ h => h)).setCell _ _ (fun h => by have := HGB.out; simp only at h; omega))
      clear qc qf
      go_wp2_with fail
      exact ⟨⟨i + 1, by omega, by go_num, HST, Lib.hid ⟨full_tab HFST.out, fun _ => HFST.out⟩, Lib.hid HMST.out⟩, by simp [intOf]; omega⟩
    · obtain rfl : i = 8 := by omega
      have hh := HHR.out
      rw [List.take_of_length_le (by rw [hTab_length]; exact Nat.le_refl _), List.drop_eq_nil_of_le (by simp), List.append_nil, hV_list] at hh
      have HHF := Lib.hid hh
      clear hh
      go_wp2_with fail
      exact HPOST.out _ _ ⟨g, rfl, HHF.out, by have := HGB.out; omega, HTR.out.2 (by omega), HMR.out⟩
end Go.Proofs.YtjilbnpehgigjaaGreat

/- Package wire. (Printed by wip/tools/gen_wire.py.) -/
namespace Go.Proofs.YtjilbnpehgigjaaGreat
open Go.RowKit
/-- a writer at block b, all of it from block B on: it has written l -/
structure IsEnc (B : Nat) (w : World) (b : Nat) (l : List UInt8) : Prop where
  lo : B ≤ b
  ex : ∃ p q, w.heap[b]? = some (.cells #[.slice p l.length q, .int .i64 0] 168 (0, 0)) ∧ IsVec (fun k => B ≤ k ∧ k ≠ b) w 5 1 (.slice p l.length q) l.length (bys l)
theorem IsEnc.mod {B : Nat} {T : Nat → Prop} {w w' : World} {b : Nat} {l : List UInt8} (h : IsEnc B w b l) (m : Mod T w w') (hs : ∀ k, k < w.heap.size → B ≤ k → ¬ T k) : IsEnc B w' b l := by
  obtain ⟨p, q, h1, h2⟩ := h.ex
  exact ⟨h.lo, p, q, (m.block b (heap_lt h1) (hs b (heap_lt h1) h.lo)).trans h1, h2.mod m (fun k hk h => hs k hk h.1)⟩
theorem IsEnc.modNil {B : Nat} {w w' : World} {b : Nat} {l : List UInt8} (h : IsEnc B w b l) (m : Mod nil w w') : IsEnc B w' b l := h.mod m (fun _ _ _ h => h)
/-- .. all of it at blocks of S -/
structure IsEncS (S : Nat → Prop) (w : World) (b : Nat) (l : List UInt8) : Prop where
  lo : S b
  ex : ∃ p q, w.heap[b]? = some (.cells #[.slice p l.length q, .int .i64 0] 168 (0, 0)) ∧ IsVec (fun k => S k ∧ k ≠ b) w 5 1 (.slice p l.length q) l.length (bys l)
theorem IsEncS.mono {S T : Nat → Prop} {w : World} {b : Nat} {l : List UInt8} (h : IsEncS S w b l) (hs : ∀ k, k < w.heap.size → S k → T k) : IsEncS T w b l := by
  obtain ⟨p, q, h1, h2⟩ := h.ex
  exact ⟨hs b (heap_lt h1) h.lo, p, q, h1, h2.mono (fun k hk h => ⟨hs k hk h.1, h.2⟩)⟩
theorem IsEncS.mod {S T : Nat → Prop} {w w' : World} {b : Nat} {l : List UInt8} (h : IsEncS S w b l) (m : Mod T w w') (hs : ∀ k, k < w.heap.size → S k → ¬ T k) : IsEncS S w' b l := by
  obtain ⟨p, q, h1, h2⟩ := h.ex
  exact ⟨h.lo, p, q, (m.block b (heap_lt h1) (hs b (heap_lt h1) h.lo)).trans h1, h2.mod m (fun k hk h => hs k hk h.1)⟩
theorem IsEncS.modNil {S : Nat → Prop} {w w' : World} {b : Nat} {l : List UInt8} (h : IsEncS S w b l) (m : Mod nil w w') : IsEncS S w' b l := h.mod m (fun _ _ _ h => h)
theorem IsEnc.wide {B : Nat} {w : World} {b : Nat} {l : List UInt8} (h : IsEnc B w b l) : IsEncS (fun k => B ≤ k) w b l := ⟨h.lo, h.ex⟩
theorem IsEncS.base {B : Nat} {w : World} {b : Nat} {l : List UInt8} (h : IsEncS (fun k => B ≤ k) w b l) : IsEnc B w b l := ⟨h.lo, h.ex⟩
theorem wireNewEnc (w : World) : Calls Tryz.prog 99 #[] w fun e w' => ∃ b, e = .returned (.pointer (some ⟨b, 0, none⟩)) ∧ IsEnc w.heap.size w' b [] ∧ Mod nil w w' := by
  go_enter Tryz.func99, Tryz.ntmps99
  go_wp2_with fail
  go_ret
  exact ⟨_, rfl, ⟨Nat.le_refl _, none, 0, heap_alloc_new _ _, IsVec.nil _ _ _ _⟩, (Mod.refl _ _).alloc _⟩
theorem wireMay (size : Nat) (h1 : 1 ≤ size) (h8 : size ≤ 8) (w : World) : Calls Tryz.prog 113 #[.int .i64 size] w fun e w' => e = .returned (.bool true) ∧ w = w' := by
  go_enter Tryz.func113, Tryz.ntmps113
  go_wp2_with fail
  go_ret
  exact ⟨by simp; try omega, rfl⟩
set_option maxRecDepth 100000 in
set_option maxHeartbeats 1000000 in
theorem encNumS (S : Nat → Prop) (b : Nat) (l : List UInt8) (n size : Nat) (W0 : World) (h : IsEncS S W0 b l) (hB : ∀ k, W0.heap.size ≤ k → S k) (h1 : 1 ≤ size) (h8 : size ≤ 8) (hn : n ≤ 4611686018427387904) (hfit : n < 2 ^ (8 * size)) (hl : l.length ≤ 1099511627776) :
    Calls Tryz.prog 100 #[.pointer (some ⟨b, 0, none⟩), .int .i64 n, .int .i64 size] W0 fun e w' => e = .returned (.tuple #[]) ∧ IsEncS S w' b (l ++ layC n size size) ∧ Mod S W0 w' := by
  obtain ⟨p0, q0, hb0, hv0⟩ := h.ex
  have HLO := Lib.hid h.lo
  have HB0 := Lib.hid hb0
  have HV0 := Lib.hid hv0
  have c0 := cell_of hb0 1
  simp only [List.getElem?_toArray, List.getElem?_cons_zero, List.getElem?_cons_succ] at c0
  have hdiv : (n : Int) / 2 ^ (8 * size) = 0 := by
    rw [show (n : Int) / 2 ^ (8 * size) = ((n / 2 ^ (8 * size) : Nat) : Int) by simp, Nat.div_eq_of_lt hfit]; rfl
  have hA : decide (0 ≤ (n : Int) ∧ (n : Int) ≤ 4611686018427387904) = true := decide_eq_true ⟨by omega, by omega⟩
  clear hfit hb0 hv0 h
  go_enter Tryz.func100, Tryz.ntmps100
  go_wp2_with fail
  refine (wireMay size h1 h8 _).mono ?_
  rintro e w1 ⟨rfl, rfl⟩
  go_wp2_with fail
  refine (numAmount _ _).mono ?_
  rw [hA]
  rintro e w1 ⟨rfl, rfl⟩
  by_cases hs8 : size < 8
  all_goals
    go_wp2_with fail
    clear c0 hdiv hA
    go_loopw [6] (fun v6 wr => ∃ (c : Nat) (x : Int), c ≤ size ∧ v6 = .int .i64 x ∧ Hid (x = (size : Int) - 1 - c) ∧ Hid (IsEncS S wr b (l ++ layC n size c)) ∧ Hid (Mod S W0 wr)) (fun v _ => (intOf v + 1).toNat)
    case atStart => exact ⟨0, _, by omega, rfl, Lib.hid (by omega), Lib.hid (by rw [show l ++ layC n size 0 = l from List.append_nil l]; exact ⟨HLO.out, _, _, HB0.out, HV0.out⟩), Lib.hid (Mod.refl _ _)⟩
    case round =>
      obtain ⟨c, x, hc, rfl, HX, HER, HMR⟩ := hrel
      by_cases hlt : c < size
      · obtain ⟨k, rfl⟩ : ∃ k : Nat, x = k := ⟨size - 1 - c, by have := HX.out; omega⟩
        have hk : size - 1 - c = k := by have := HX.out; omega
        have hk8 : k < 8 := by omega
        obtain ⟨p, q, hbr, hvr⟩ := HER.out.ex
        obtain ⟨N, hN⟩ : ∃ N, (l ++ layC n size c).length = N := ⟨_, rfl⟩
        have hNl : N ≤ 1099511627784 := by rw [← hN, List.length_append, layC_length]; omega
        rw [hN] at hbr hvr
        have HN := Lib.hid hN
        have HBR := Lib.hid hbr
        have HVR := Lib.hid hvr
        have c0 := cell_of hbr 0
        simp only [List.getElem?_toArray, List.getElem?_cons_zero] at c0
        have hbl := heap_lt hbr
        have ca : ∀ ob, (wr.alloc ob).cell? ⟨b, 0, none⟩ = some (.slice p N q) := fun ob => cell_kept c0 ((Mod.refl nil _).alloc ob) hbl (not_nil _)
        have hb : ((byteAt n k).toNat : Int) = (n : Int) / 2 ^ (8 * k) % 256 := by rw [byteAt_nat]; simp
        have hw : IntKind.u8.wrap ((n : Int) / 2 ^ (8 * k)) = ((byteAt n k).toNat : Int) := by rw [IntKind.wrap_u8, hb]
        have hnat : (8 * (k : Int)).toNat = 8 * k := by omega
        have hmul : IntKind.i64.wrap (8 * (k : Int)) = 8 * (k : Int) := by rw [IntKind.wrap_i64]; omega
        have hB' : ∀ k, wr.heap.size ≤ k → S k := fun k hk => hB k (by have := HMR.out.size; omega)
        have HK := Lib.hid hk
        clear hN hbr hvr hb hk
        go_upto_region 6 with (fail)
        refine region_till (fun w' => w'.cell? ⟨b, 0, none⟩ = some (.slice p N q)) 11 (by kernel_rfl) ?_
        refine tF 0 (fun _ => c0) ?_
        (try simp only [Act.put, pT])
        refine tF 1 (fun _ => c0) ?_
        (try simp only [Act.put, pT])
        refine tF 2 (fun _ => c0) ?_
        (try simp only [Act.put, pT])
        refine tF 3 (fun _ => c0) ?_
        (try simp only [Act.put, pT])
        refine tT 4 (c0) ?_
        (try simp only [Act.put, pT])
        refine tF 5 (fun _ => c0) ?_
        (try simp only [Act.put, pT])
        refine tF 6 (fun _ => c0) ?_
        (try simp only [Act.put, pT])
        refine tF 7 (fun _ => c0) ?_
        (try simp only [Act.put, pT])
        refine tF 8 (fun _ => c0) ?_
        (try simp only [Act.put, pT])
        refine tF 9 (fun _ => c0) ?_
        (try simp only [Act.put, pT])
        refine till_ready (rs := [10]) (by kernel_rfl) (by simp) ?_
        refine till_cons (i := 10) rfl (fun K hK => ?_) till_nil
        (try dsimp (config := { proj := false }) only [g0, g1, g2])
        go_simp
        refine hK.out _ _ (fun _ => ca _) ?_
        clear hK K
        (try simp only [Act.put, pT])
        have hm1 : Mod nil wr (wr.alloc (.cells #[.int .u8 (byteAt n k).toNat] 5)).drew := ((Mod.refl nil wr).alloc _).drew
        have hx1 : IsRow (· = wr.heap.size) (wr.alloc (.cells #[.int .u8 (byteAt n k).toNat] 5)).drew (.slice (some ⟨wr.heap.size, 0, none⟩) 1 1) (bys [byteAt n k]) := (row_one (byteAt n k) _ rfl).modNil ((Mod.refl nil _).drew)
        refine till_ready (rs := [11]) (by kernel_rfl) (by simp) ?_
        refine till_cons (i := 11) rfl (fun K hK => ?_) till_nil
        (try dsimp (config := { proj := false }) only [g0, g1, g2])
        obtain ⟨i0, hi0, hz0, hz1, hz2⟩ := info_parts info_u8
        refine step_append_vec (S := fun k => S k ∧ k ≠ b) rfl _ _ _ rfl 5 i0 _ 1 1 Tryz.underlying22 hi0 hz0 hz1 hz2 rfl (by omega) _ N (bys (l ++ layC n size c)) rfl (HVR.out.modNil hm1) _ 1 _ rfl hx1.cells (by simp [bys]) (bys_one _) (by unfold maxLen; omega) (by omega) ?_
        intro v7 w7 hv7 hm7
        obtain ⟨p7, q7, rfl⟩ := hv7.form
        have hb7 : w7.heap[b]? = some (.cells #[.slice p N q, .int .i64 0] 168 (0, 0)) := (hm7.block b (by have := heap_lt (hm1.keep HBR.out); omega) (fun h => h.2 rfl)).trans (hm1.keep HBR.out)
        have c7 := cell_of hb7 0
        have z7 := free_of hb7 0
        simp only [List.getElem?_toArray, List.getElem?_cons_zero] at c7
        have HV7 : Hid (IsVec (fun k => S k ∧ k ≠ b) w7 5 1 (.slice p7 (N + 1) q7) (N + 1) (bys (l ++ layC n size c) ++ bys [byteAt n k])) := Lib.hid (hv7.mono (fun j _ h => h.elim id (fun h => by have := hm1.size; exact ⟨hB' j (by omega), by omega⟩)))
        have HM7 : Hid (Mod S W0 w7) := Lib.hid ((HMR.out.thenNil hm1).trans hm7 (fun k _ h => h.1))
        have HB7 := Lib.hid hb7
        have hs7 : wr.heap.size ≤ w7.heap.size := Nat.le_trans hm1.size hm7.size
        clear hv7 hm7 hm1 hx1 hi0 hz0 hz1 hz2 hb7
        refine hK.out _ _ (fun _ => c7) ?_
        clear hK K
        (try simp only [Act.put, pT])
        refine till_ready (rs := [12]) (by kernel_rfl) (by simp) ?_
        refine till_cons (i := 12) rfl (fun K hK => ?_) till_nil
        (try dsimp (config := { proj := false }) only [g0, g1, g2])
        go_simp
        refine hK.out _ _ (fun _ => c7) ?_
        clear hK K
        (try simp only [Act.put, pT])
        refine till_ready (rs := [13]) (by kernel_rfl) (by simp) ?_
        refine till_cons (i := 13) rfl (fun K hK => ?_) till_nil
        (try dsimp (config := { proj := false }) only [g0, g1, g2])
        go_simp
        refine hK.out _ _ (fun _ => c7) ?_
        clear hK K
        (try simp only [Act.put, pT])
        refine till_ready (rs := [14]) (by kernel_rfl) (by simp) ?_
        refine till_cons (i := 14) rfl (fun K hK => ?_) till_nil
        (try dsimp (config := { proj := false }) only [g0, g1, g2])
        go_simp
        refine hK.out _ _ (fun h => (by simp at h)) ?_
        clear hK K
        (try simp only [Act.put, pT])
        refine till_done (by kernel_rfl) ?_ _
        go_wp2_with fail
        refine ⟨⟨c + 1, _, by omega, rfl, Lib.hid (by have := HX.out; omega), Lib.hid ?_, Lib.hid ?_⟩, by simp [intOf] <;> omega⟩
        · have e : l ++ layC n size (c + 1) = (l ++ layC n size c) ++ [byteAt n k] := by rw [layC_succ, HK.out, List.append_assoc]
          have el : ((l ++ layC n size c) ++ [byteAt n k]).length = N + 1 := by rw [List.length_append, HN.out]; rfl
          rw [e]
          refine ⟨HLO.out, p7, q7, ?_, ?_⟩
          · rw [el]; exact heap_setCell_same HB7.out (.slice p7 (N + 1) q7) (off := 0)
          · rw [el, bys_append]
            exact HV7.out.mod (T := (· = b)) ((Mod.refl (· = b) w7).setCell _ _ (fun _ => rfl)) (fun j _ h1 h2 => h1.2 h2)
        · exact HM7.out.setCell _ _ (fun _ => HLO.out)
      · obtain rfl : c = size := by omega
        obtain rfl : x = -1 := by have := HX.out; omega
        go_wp2_with fail
        go_end0
        exact ⟨rfl, HER.out, HMR.out⟩
theorem encNum (B b : Nat) (l : List UInt8) (n size : Nat) (W0 : World) (h : IsEnc B W0 b l) (hB : B ≤ W0.heap.size) (h1 : 1 ≤ size) (h8 : size ≤ 8) (hn : n ≤ 4611686018427387904) (hfit : n < 2 ^ (8 * size)) (hl : l.length ≤ 1099511627776) :
    Calls Tryz.prog 100 #[.pointer (some ⟨b, 0, none⟩), .int .i64 n, .int .i64 size] W0 fun e w' => e = .returned (.tuple #[]) ∧ IsEnc B w' b (l ++ layC n size size) ∧ Mod (fun k => B ≤ k) W0 w' :=
  (encNumS (fun k => B ≤ k) b l n size W0 h.wide (fun k hk => by omega) h1 h8 hn hfit hl).mono fun e w' ⟨a, h, m⟩ => ⟨a, h.base, m⟩
theorem encDone (B b : Nat) (l : List UInt8) (W0 : World) (h : IsEnc B W0 b l) (hl : l.length ≤ 1099511627776) :
    Calls Tryz.prog 101 #[.pointer (some ⟨b, 0, none⟩)] W0 fun e w' => ∃ v, e = .returned (.tuple #[v, .int .i64 0]) ∧ IsVec (fun k => W0.heap.size ≤ k) w' 5 1 v l.length (bys l) ∧ Mod nil W0 w' := by
  obtain ⟨p0, q0, hb0, hv0⟩ := h.ex
  have c0 := cell_of hb0 0
  have c1 := cell_of hb0 1
  simp only [List.getElem?_toArray, List.getElem?_cons_zero, List.getElem?_cons_succ] at c0 c1
  have HV0 := Lib.hid hv0
  clear hb0 hv0 h
  go_enter Tryz.func101, Tryz.ntmps101
  go_wp2_with fail
  refine (cloneBytes _ _ l W0 HV0.out.row (by omega)).mono ?_
  rintro e w' ⟨v, rfl, hv, hm⟩
  go_wp2_with fail
  go_ret2
  exact ⟨v, rfl, hv, hm⟩
end Go.Proofs.YtjilbnpehgigjaaGreat

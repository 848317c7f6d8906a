/- Package sha: a number's bytes are laid. -/
import Derived.Test.YtdfpmlfdmhlhcaaGreatRowB
import Derived.Test.YtdfpmlfdmhlhcaaGreatShaPlain
import Derived.Test.YtdfpmlfdmhlhcaaGreatShaMix
namespace Go.Proofs.YtdfpmlfdmhlhcaaGreat
open Go.RowKit

def byteAt (n k : Nat) : UInt8 := UInt8.ofNat (n / 2 ^ (8 * k))
/-- the first c bytes of so many -/
def layC (n size c : Nat) : List UInt8 := (List.range c).map (fun j => byteAt n (size - 1 - j))
theorem layC_succ (n size c : Nat) : layC n size (c + 1) = layC n size c ++ [byteAt n (size - 1 - c)] := by simp [layC, List.range_succ]
theorem layC_length (n size c : Nat) : (layC n size c).length = c := by simp [layC]
theorem byteAt_nat (n k : Nat) : ((byteAt n k).toNat : Int) = ((n / 2 ^ (8 * k) % 256 : Nat) : Int) := by simp [byteAt]
theorem row_one {w : World} (b : UInt8) (g : Nat) (hg : w.heap.size = g) : IsRow (· = g) (w.alloc (.cells #[.int .u8 b.toNat] 5)) (.slice (some ⟨g, 0, none⟩) 1 1) (bys [b]) := by
  subst hg
  have h : (w.alloc (.cells #[.int .u8 b.toNat] 5)).heap[w.heap.size]? = some (.cells (bys [b]).toArray 5 (0, 0)) := heap_alloc_new w _
  exact IsRow.ofBlock (S := (· = w.heap.size)) h rfl 1 1 rfl
set_option maxRecDepth 100000 in
set_option maxHeartbeats 1000000 in
theorem shaLays (S : Nat → Prop) (v : Value) (l : List UInt8) (n size : Nat) (w : World) (hv : IsVec S w 5 1 v l.length (bys l)) (hn : n < 18446744073709551616) (hs : size ≤ 8) (hl : l.length ≤ 1099511627776) :
    Calls Tryz.prog 118 #[v, .int .u64 n, .int .i64 size] w fun e w' => ∃ v', e = .returned v' ∧ IsVec (fun k => S k ∨ w.heap.size ≤ k) w' 5 1 v' (l ++ layC n size size).length (bys (l ++ layC n size size)) ∧ Mod S w w' := by
  have HV := Lib.hid hv
  clear hv
  go_enter Tryz.func118, Tryz.ntmps118
  go_wp2_with fail
  go_loopw [0, 7] (fun v0 v7 wr => ∃ (c : Nat) (x : Int), c ≤ size ∧ v7 = .int .i64 x ∧ x = (size : Int) - 1 - c ∧ Hid (IsVec (fun k => S k ∨ w.heap.size ≤ k) wr 5 1 v0 (l ++ layC n size c).length (bys (l ++ layC n size c))) ∧ Hid (Mod S w wr)) (fun _ v _ => (intOf v + 1).toNat)
  case atStart => exact ⟨0, _, by omega, rfl, by omega, Lib.hid (by simpa [layC] using HV.out.mono (fun _ _ h => .inl h)), Lib.hid (Mod.refl _ _)⟩
  case round =>
    obtain ⟨c, x, hc, rfl, hx, HVC, HMC⟩ := hrel
    by_cases hlt : c < size
    · obtain ⟨k, rfl⟩ : ∃ k : Nat, x = k := ⟨size - 1 - c, by omega⟩
      have hk : size - 1 - c = k := by omega
      have hvc := HVC.out
      obtain ⟨N, hN⟩ : ∃ N, (l ++ layC n size c).length = N := ⟨_, rfl⟩
      have hNl : N ≤ 1099511627784 := by rw [← hN, List.length_append, layC_length]; omega
      have hnext : l ++ layC n size (c + 1) = (l ++ layC n size c) ++ [byteAt n k] := by rw [layC_succ, hk, List.append_assoc]
      have hb := byteAt_nat n k
      have hbi : ((n / 2 ^ (8 * k) % 256 : Nat) : Int) = (n : Int) / 2 ^ (8 * k) % 256 := by simp
      rw [hbi] at hb
      have hk8 : k < 8 := by omega
      have hx0 : 0 ≤ (size : Int) - 1 - (c : Int) := by omega
      have hm0 : Mod nil wr (wr.alloc (.cells #[.int .u8 (byteAt n k).toNat] 5)) := (Mod.refl nil wr).alloc _
      obtain ⟨v7, w7, hrun, hvec, hmod⟩ := bytes_append (l := l ++ layC n size c) (m := [byteAt n k]) 26 (hvc.modNil hm0) (row_one (byteAt n k) _ rfl) (by rw [hN]; simp; omega)
      have hlen : (l ++ layC n size (c + 1)).length = N + 1 := by rw [hnext, List.length_append, hN]; rfl
      rw [← hnext, hlen] at hvec
      obtain ⟨p7, c7, rfl⟩ := hvec.form
      rw [hb] at hrun
      have HLEN := Lib.hid hlen
      clear hlen
      have HRUN := Lib.hid hrun
      have HVEC := Lib.hid (hvec.mono (T := fun k => S k ∨ w.heap.size ≤ k) (fun j _ h => h.elim id (fun h => .inr (by have := HMC.out.size; have := hm0.size; omega))))
      have HMOD : Hid (Mod S w w7) := Lib.hid ((HMC.out.thenNil hm0).trans hmod (fun i hi h => h.elim id (fun h => by omega)))
      rw [hN] at hvc
      obtain ⟨pv, cv, rfl⟩ := hvc.form
      clear hvc hN hnext hb hbi hm0 hrun hvec hmod
      have HX := Lib.hid hx
      have HK := Lib.hid hk
      clear hx hk
      go_wp2_with (first | (at_builtin; refine wpList_append_run rfl _ _ _ _ rfl rfl rfl HRUN.out ?_))
      exact ⟨⟨c + 1, _, by omega, rfl, by have := HX.out; omega, Lib.hid (by rw [HLEN.out]; exact HVEC.out), HMOD⟩, by simp [intOf] <;> omega⟩
    · obtain rfl : c = size := by omega
      obtain rfl : x = -1 := by omega
      go_wp2_with fail
      go_ret
      exact ⟨_, rfl, HVC.out, HMC.out⟩
end Go.Proofs.YtdfpmlfdmhlhcaaGreat

/- A number as so many bytes. -/
namespace Go.Proofs.YtdfpmlfdmhlhcaaGreat
open Go.RowKit
/-- a number as so many bytes -/
def nb (n : Int) (k : Nat) : List UInt8 := layC n.toNat k k
theorem nb_length (n : Int) (k : Nat) : (nb n k).length = k := layC_length _ _ _
end Go.Proofs.YtdfpmlfdmhlhcaaGreat

/- Package sha: New. -/
namespace Go.Proofs.YtdfpmlfdmhlhcaaGreat
open Go.RowKit

/-- the cells of a Hash -/
def hashOf (tb : Nat) (l : List (BitVec 32)) (rest : Value) (n : Int) : Array Value := ([Value.pointer (some ⟨tb, 0, none⟩)] ++ (wc l ++ [rest, .int .u64 n])).toArray
theorem hash_h (tb : Nat) (l : List (BitVec 32)) (rest : Value) (n : Int) (i : Nat) (hi : i < l.length) : (hashOf tb l rest n)[1 + i]? = some (.int .u32 (u (l.getD i 0))) := by
  simp only [hashOf, List.getElem?_toArray]
  rw [List.getElem?_append_right (by simp), List.getElem?_append_left (by simp [wc]; omega)]
  simp only [List.length_cons, List.length_nil]
  rw [show 1 + i - (0 + 1) = i by omega]
  exact wc_get l i hi
theorem hash_set (tb : Nat) (l : List (BitVec 32)) (rest : Value) (n : Int) (i : Nat) (hi : i < l.length) (x : BitVec 32) : (hashOf tb l rest n).setIfInBounds (1 + i) (.int .u32 (u x)) = hashOf tb (l.set i x) rest n := by
  simp only [hashOf, List.setIfInBounds_toArray]
  congr 1
  rw [List.set_append_right _ _ (by simp), List.set_append_left _ _ (by simp [wc]; omega)]
  simp only [List.length_cons, List.length_nil]
  rw [show 1 + i - (0 + 1) = i by omega, wc_set]
/-- a Hash in block b -/
def IsHash (w : World) (b tb : Nat) (v : V8) (rest : Value) (n : Int) : Prop := w.heap[b]? = some (.cells (hashOf tb v.list rest n) 205 (0, 0))
/-- the state that a hash begins with -/
def hV : V8 := ⟨hTab.getD 0 0, hTab.getD 1 0, hTab.getD 2 0, hTab.getD 3 0, hTab.getD 4 0, hTab.getD 5 0, hTab.getD 6 0, hTab.getD 7 0⟩
theorem list8 (l : List (BitVec 32)) (h : l.length = 8) : l = [l.getD 0 0, l.getD 1 0, l.getD 2 0, l.getD 3 0, l.getD 4 0, l.getD 5 0, l.getD 6 0, l.getD 7 0] := by
  match l, h with
  | [a, b, c, d, e, f, g, h], _ => rfl
theorem hV_list : hTab = hV.list := list8 hTab hTab_length
set_option maxRecDepth 100000 in
set_option maxHeartbeats 2000000 in
theorem shaNew (tb : Nat) (w : World) (ht : IsTab w tb) :
    Calls Tryz.prog 66 #[.pointer (some ⟨tb, 0, none⟩)] w fun e w' => ∃ b, e = .returned (.pointer (some ⟨b, 0, none⟩)) ∧ IsHash w' b tb hV (.slice none 0 0) 0 ∧ w.heap.size ≤ b ∧ IsFull w' tb ∧ Mod (· = tb) w w' := by
  have HT := Lib.hid ht
  clear ht
  refine (?_ : ∀ Post : Ending → World → Prop, Hid (∀ e w', (∃ b, e = .returned (.pointer (some ⟨b, 0, none⟩)) ∧ IsHash w' b tb hV (.slice none 0 0) 0 ∧ w.heap.size ≤ b ∧ IsFull w' tb ∧ Mod (· = tb) w w') → Post e w') → Calls Tryz.prog 66 #[.pointer (some ⟨tb, 0, none⟩)] w Post) _ (Lib.hid (fun _ _ h => h))
  intro Post HPOST
  go_enter Tryz.func66, Tryz.ntmps66
  go_upto_region 2 with (fail)
  obtain ⟨g, hg⟩ : ∃ g, w.heap.size = g := ⟨_, rfl⟩
  generalize hw1 : w.alloc _ = w1
  have HH1 : Hid (w1.heap[g]? = some (.cells (hashOf tb (hTab.take 0 ++ (List.replicate 8 0#32).drop 0) (.slice none 0 0) 0) 205 (0, 0))) := Lib.hid (by rw [← hw1, ← hg, heap_alloc_new]; rfl)
  have hm1 : Mod nil w w1 := by rw [← hw1]; exact (Mod.refl _ _).alloc _
  have HM1 : Hid (Mod (· = tb) w w1) := Lib.hid hm1.ofNil
  have HT1 := Lib.hid (HT.out.mod hm1 (not_nil _))
  have HGB : Hid (w.heap.size = g) := Lib.hid hg
  have htg : tb < g := by have := HT.out.lt; omega
  rw [hg]
  clear hw1 hg hm1 HT
  go_wp2_with fail
  go_loopw [8] (fun v8 wr => ∃ i : Nat, i ≤ 8 ∧ v8 = .int .i64 i ∧ Hid (wr.heap[g]? = some (.cells (hashOf tb (hTab.take i ++ (List.replicate 8 0#32).drop i) (.slice none 0 0) 0) 205 (0, 0))) ∧ Hid (IsTab wr tb ∧ (0 < i → IsFull wr tb)) ∧ Hid (Mod (· = tb) w wr)) (fun v _ => 8 - (intOf v).toNat)
  case atStart => exact ⟨0, by omega, rfl, HH1, Lib.hid ⟨HT1.out, fun h => by omega⟩, HM1⟩
  case round =>
    obtain ⟨i, hi, rfl, HHR, HTR, HMR⟩ := hrel
    by_cases hlt : i < 8
    · have hbi : decide ((i : Int) < 8) = true := by simp; omega
      have hib : (i : Int) < 8 := by omega
      have hlen : (hTab.take i ++ (List.replicate 8 0#32).drop i).length = 8 := by simp [hTab_length]; omega
      obtain ⟨x, hx⟩ : ∃ x, hTab.getD i 0 = x := ⟨_, rfl⟩
      have hset : (hTab.take i ++ (List.replicate 8 0#32).drop i).set i x = hTab.take (i + 1) ++ (List.replicate 8 0#32).drop (i + 1) := by
        have h := take_set hTab (List.replicate 8 0#32) i (by rw [hTab_length]; exact hlt) (by simpa using hlt)
        rw [← h, ← hx, List.getD_eq_getElem?_getD, List.getElem?_eq_getElem (by rw [hTab_length]; exact hlt)]
        rfl
      obtain ⟨L, hL⟩ : ∃ L, hTab.take i ++ (List.replicate 8 0#32).drop i = L := ⟨_, rfl⟩
      rw [hL] at HHR hlen hset
      have HX := Lib.hid hx
      have HSET := Lib.hid hset
      clear hx hset hL
      go_upto_region 5 with (fail)
      go_region_held3 (fun _ => True) (trivial) (first
        | (go_at_call 116; refine (shaStart tb i hlt _ (HTR.out.1.mod (Mod.refl Go.Proofs.YtdfpmlfdmhlhcaaGreat.nil wr).drew (not_nil _))).mono ?_; rw [HX.out]; rintro e w6 ⟨rfl, hf6, hm6⟩; have HF6 := Lib.hid hf6; have HM6 := Lib.hid hm6; have HH6 := Lib.hid ((hm6.block g (heap_lt HHR.out) (by omega)).trans HHR.out); have qc := (cell_of HH6.out (1 + i)).trans (hash_h tb _ _ _ i (by omega)); have qf := free_of HH6.out (1 + i); clear hf6 hm6))
      have HST : Hid ((w6.setCell ⟨g, 1 + i, none⟩ (.int .u32 (u x))).heap[g]? = some (.cells (hashOf tb (hTab.take (i + 1) ++ (List.replicate 8 0#32).drop (i + 1)) (.slice none 0 0) 0) 205 (0, 0))) := Lib.hid (by
        rw [heap_setCell_same HH6.out, hash_set tb _ _ _ i (by omega), HSET.out])
      have HFST : Hid (IsFull (w6.setCell ⟨g, 1 + i, none⟩ (.int .u32 (u x))) tb) := Lib.hid ((heap_setCell_other _ (by omega)).trans HF6.out)
      have HMST : Hid (Mod (· = tb) w (w6.setCell ⟨g, 1 + i, none⟩ (.int .u32 (u x)))) := Lib.hid ((HMR.out.drew.trans HM6.out (fun _ _ h => h)).setCell _ _ (fun h => by have := HGB.out; simp only at h; omega))
      clear qc qf
      go_wp2_with fail
      exact ⟨⟨i + 1, by omega, by go_num, HST, Lib.hid ⟨full_tab HFST.out, fun _ => HFST.out⟩, Lib.hid HMST.out⟩, by simp [intOf]; omega⟩
    · obtain rfl : i = 8 := by omega
      have hh := HHR.out
      rw [List.take_of_length_le (by rw [hTab_length]; exact Nat.le_refl _), List.drop_eq_nil_of_le (by simp), List.append_nil, hV_list] at hh
      have HHF := Lib.hid hh
      clear hh
      go_wp2_with fail
      exact HPOST.out _ _ ⟨g, rfl, HHF.out, by have := HGB.out; omega, HTR.out.2 (by omega), HMR.out⟩
end Go.Proofs.YtdfpmlfdmhlhcaaGreat

/- Package sha: NewTable, One. -/
import Derived.Test.YtjjcmdblohbneaaGreatShaSum
namespace Go.Proofs.YtjjcmdblohbneaaGreat
open Go.RowKit

/-- the hash of a text -/
def shaOf (m : List UInt8) : List UInt8 := sumOf (m.drop (64 * (m.length / 64))) m.length (mixK m hV (m.length / 64))
theorem shaOf_length (m : List UInt8) : (shaOf m).length = 32 := sumOf_length _ _ _
theorem shaNewTable (w : World) : Calls Tryz.prog 8 #[] w fun e w' => ∃ tb, e = .returned (.pointer (some ⟨tb, 0, none⟩)) ∧ IsTab w' tb ∧ w.heap.size ≤ tb ∧ Mod nil w w' := by
  go_enter Tryz.func8, Tryz.ntmps8
  go_wp2_with fail
  go_ret
  refine ⟨w.heap.size, rfl, .inr ⟨List.replicate 64 0#32, List.replicate 8 0#32, by simp, by simp, ?_⟩, Nat.le_refl _, (Mod.refl _ _).alloc _⟩
  rw [heap_alloc_new]
  rfl
theorem shaOne (tb : Nat) (T : Nat → Prop) (vb : Value) (m : List UInt8) (w : World) (ht : IsTab w tb) (hrow : IsRow T w vb (bys m)) (hTt : ∀ k, T k → k < w.heap.size ∧ k ≠ tb) (hm : m.length ≤ 1099511627000) :
    Calls Tryz.prog 69 #[.pointer (some ⟨tb, 0, none⟩), vb] w fun e w' => ∃ v', e = .returned v' ∧ IsVec (fun k => w.heap.size ≤ k) w' 5 1 v' 32 (bys (shaOf m)) ∧ IsTab w' tb ∧ Mod (· = tb) w w' := by
  refine (?_ : ∀ Post : Ending → World → Prop, Hid (∀ e w', (∃ v', e = .returned v' ∧ IsVec (fun k => w.heap.size ≤ k) w' 5 1 v' 32 (bys (shaOf m)) ∧ IsTab w' tb ∧ Mod (· = tb) w w') → Post e w') → Calls Tryz.prog 69 #[.pointer (some ⟨tb, 0, none⟩), vb] w Post) _ (Lib.hid (fun _ _ h => h))
  intro Post HPOST
  have HT := Lib.hid ht
  have HR := Lib.hid hrow
  have HTT := Lib.hid hTt
  obtain ⟨pm, cm, rfl, _⟩ := id hrow
  obtain ⟨M, hM⟩ : ∃ M, m.length = M := ⟨_, rfl⟩
  rw [bys_length, hM] at HR ⊢
  have HML := Lib.hid hM
  clear ht hrow hTt hM
  go_enter Tryz.func69, Tryz.ntmps69
  go_wp2_with fail
  refine (shaNew tb w HT.out).mono ?_
  rintro e w1 ⟨b, rfl, hh1, hb1, hf1, hm1⟩
  have htl := HT.out.lt
  have HH1 := Lib.hid hh1
  have HF1 := Lib.hid hf1
  have HM1 := Lib.hid hm1
  clear hh1 hf1 hm1
  go_wp2_with fail
  refine (shaWrite b tb hV (fun _ => False) T (.slice none 0 0) (.slice pm M cm) [] m 0 w1 HH1.out (IsVec.nil _ _ _ _) id id (by omega) (full_tab HF1.out) (HR.out.mod HM1.out (fun k _ hk e => (HTT.out k hk).2 e)) (fun h => by have := (HTT.out b h).1; omega) (by simp; omega) (by omega)).mono ?_
  rintro e w2 ⟨rfl, ⟨rv, hh2, hv2⟩, ht2, hm2⟩
  rw [List.nil_append, Nat.zero_add] at hh2
  rw [List.nil_append] at hv2
  have HH2 := Lib.hid hh2
  have HV2 := Lib.hid hv2
  have HT2 := Lib.hid ht2
  have HM2 := Lib.hid hm2
  clear hh2 hv2 ht2 hm2
  go_wp2_with fail
  refine (shaSum b tb _ _ rv (m.drop (64 * (m.length / 64))) m.length w2 HH2.out HV2.out (by omega) HT2.out (by simp; omega) (by omega)).mono ?_
  rintro e w3 ⟨v3, rfl, hv3, ht3, hm3⟩
  have hmf : Mod (· = tb) w w3 := (HM1.out.trans HM2.out (fun k hk h => h.elim id (fun h => h.elim (fun h => by omega) (fun h => h.elim)))).trans hm3 (fun _ _ h => h)
  have hvf : IsVec (fun k => w.heap.size ≤ k) w3 5 1 v3 32 (bys (shaOf m)) := hv3.mono (fun k _ hk => by have := HM1.out.size; have := HM2.out.size; omega)
  have HF := Lib.hid (And.intro hvf (And.intro ht3 hmf))
  clear hv3 ht3 hmf hvf
  go_wp2_with fail
  exact HPOST.out _ _ ⟨v3, rfl, HF.out.1, HF.out.2.1, HF.out.2.2⟩
end Go.Proofs.YtjjcmdblohbneaaGreat

/- Hashing in several writes: the contracts of New, Write, Sum by the bytes that were written. -/
namespace Go.Proofs.YtjjcmdblohbneaaGreat
open Go.RowKit
theorem mixTake (A B : List UInt8) (v : V8) (q : Nat) (h : 64 * q ≤ A.length) : mixK (A ++ B) v q = mixK A v q := by
  induction q with
  | zero => rfl
  | succ q ih =>
    rw [mixK, mixK, ih (by omega), List.drop_append_of_le_length (by omega), List.take_append_of_le_length (by rw [List.length_drop]; omega)]
theorem mixAfter (A B : List UInt8) (v : V8) (q k : Nat) (h : A.length = 64 * q) : mixK (A ++ B) v (q + k) = mixK B (mixK A v q) k := by
  induction k with
  | zero => exact mixTake A B v q (by omega)
  | succ k ih =>
    rw [← Nat.add_assoc, mixK, mixK, ih, show 64 * (q + k) = A.length + 64 * k by omega, List.drop_length_add_append]
/-- a hash that has taken m -/
def IsHashOf (S : Nat → Prop) (w : World) (b tb : Nat) (m : List UInt8) : Prop :=
  ∃ rv, IsHash w b tb (mixK m hV (m.length / 64)) rv (m.length : Nat) ∧ IsVec S w 5 1 rv (m.drop (64 * (m.length / 64))).length (bys (m.drop (64 * (m.length / 64))))
theorem IsHashOf.mod {S T : Nat → Prop} {w w' : World} {b tb : Nat} {m : List UInt8} (h : IsHashOf S w b tb m) (d : Mod T w w') (hb : ¬ T b) (hs : ∀ k, k < w.heap.size → S k → ¬ T k) : IsHashOf S w' b tb m := by
  obtain ⟨rv, h1, h2⟩ := h
  exact ⟨rv, (d.block b (heap_lt h1) hb).trans h1, h2.mod d hs⟩
theorem IsHashOf.lt {S : Nat → Prop} {w : World} {b tb : Nat} {m : List UInt8} (h : IsHashOf S w b tb m) : b < w.heap.size := by
  obtain ⟨rv, h1, h2⟩ := h
  exact heap_lt h1
theorem shaNew2 (tb : Nat) (w : World) (ht : IsTab w tb) :
    Calls Tryz.prog 97 #[.pointer (some ⟨tb, 0, none⟩)] w fun e w' => ∃ b, e = .returned (.pointer (some ⟨b, 0, none⟩)) ∧ IsHashOf nil w' b tb [] ∧ w.heap.size ≤ b ∧ IsTab w' tb ∧ Mod (· = tb) w w' :=
  (shaNew tb w ht).mono fun _ _ ⟨b, h1, h2, h3, h4, h5⟩ => ⟨b, h1, ⟨_, h2, IsVec.nil _ _ _ _⟩, h3, full_tab h4, h5⟩
theorem shaWrite2 (b tb : Nat) (S T : Nat → Prop) (vb : Value) (m x : List UInt8) (w : World) (hh : IsHashOf S w b tb m) (hSb : ¬ S b) (hSt : ¬ S tb) (hne : tb ≠ b) (ht : IsTab w tb)
    (hrow : IsRow T w vb (bys x)) (hTb : ¬ T b) (hl : m.length + x.length ≤ 1099511627776) :
    Calls Tryz.prog 98 #[.pointer (some ⟨b, 0, none⟩), vb] w fun e w' => e = .returned (.tuple #[]) ∧ IsHashOf (fun k => w.heap.size ≤ k) w' b tb (m ++ x) ∧ IsTab w' tb ∧ Mod (fun k => k = tb ∨ k = b ∨ S k) w w' := by
  obtain ⟨rv, h1, h2⟩ := hh
  obtain ⟨q, hq⟩ : ∃ q, m.length / 64 = q := ⟨_, rfl⟩
  rw [hq] at h1 h2
  have hA : (m.take (64 * q)).length = 64 * q := by rw [List.length_take]; omega
  have hr : (m.drop (64 * q)).length = m.length - 64 * q := List.length_drop
  have hv : mixK m hV q = mixK (m.take (64 * q)) hV q := by
    have := mixTake (m.take (64 * q)) (m.drop (64 * q)) hV q (by omega)
    rwa [List.take_append_drop] at this
  have hsplit : m ++ x = m.take (64 * q) ++ (m.drop (64 * q) ++ x) := by rw [← List.append_assoc, List.take_append_drop]
  have hlen : (m ++ x).length / 64 = q + (m.drop (64 * q) ++ x).length / 64 := by rw [List.length_append, List.length_append, hr]; omega
  have hmix : mixK (m.drop (64 * q) ++ x) (mixK m hV q) ((m.drop (64 * q) ++ x).length / 64) = mixK (m ++ x) hV ((m ++ x).length / 64) := by
    rw [hlen, hsplit, mixAfter _ _ _ _ _ hA, hv]
  have hdrop : (m.drop (64 * q) ++ x).drop (64 * ((m.drop (64 * q) ++ x).length / 64)) = (m ++ x).drop (64 * ((m ++ x).length / 64)) := by
    rw [hlen, hsplit, Nat.mul_add]
    generalize m.drop (64 * q) ++ x = y
    generalize hA' : m.take (64 * q) = A at hA
    rw [show 64 * q + 64 * (y.length / 64) = A.length + 64 * (y.length / 64) by omega, List.drop_length_add_append]
  refine (shaWrite b tb (mixK m hV q) S T rv vb (m.drop (64 * q)) x m.length w h1 h2 hSb hSt hne ht hrow hTb (by rw [hr]; omega) (by omega)).mono ?_
  rintro e w' ⟨rfl, ⟨rv', k1, k2⟩, k3, k4⟩
  rw [hmix] at k1
  rw [hdrop] at k2
  rw [← List.length_append] at k1
  exact ⟨rfl, ⟨rv', k1, k2⟩, k3, k4⟩
theorem shaSum2 (b tb : Nat) (S : Nat → Prop) (m : List UInt8) (w : World) (hh : IsHashOf S w b tb m) (hne : tb ≠ b) (ht : IsTab w tb) (hm : m.length ≤ 1099511627000) :
    Calls Tryz.prog 99 #[.pointer (some ⟨b, 0, none⟩)] w fun e w' => ∃ v', e = .returned v' ∧ IsVec (fun k => w.heap.size ≤ k) w' 5 1 v' 32 (bys (shaOf m)) ∧ IsTab w' tb ∧ Mod (· = tb) w w' := by
  obtain ⟨rv, h1, h2⟩ := hh
  exact shaSum b tb _ S rv _ m.length w h1 h2 hne ht (by rw [List.length_drop]; omega) (by omega)
end Go.Proofs.YtjjcmdblohbneaaGreat

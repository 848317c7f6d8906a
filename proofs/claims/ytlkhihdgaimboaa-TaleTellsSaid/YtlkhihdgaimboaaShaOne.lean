/- Package sha: NewTable, One. -/
import Derived.Test.YtlkhihdgaimboaaShaSum
namespace Go.Proofs.Ytlkhihdgaimboaa
open Go.RowKit

/-- the hash of a text -/
def shaOf (m : List UInt8) : List UInt8 := sumOf (m.drop (64 * (m.length / 64))) m.length (mixK m hV (m.length / 64))
theorem shaOf_length (m : List UInt8) : (shaOf m).length = 32 := sumOf_length _ _ _
theorem shaNewTable (w : World) : Calls Try.prog 15 #[] w fun e w' => ∃ tb, e = .returned (.pointer (some ⟨tb, 0, none⟩)) ∧ IsTab w' tb ∧ w.heap.size ≤ tb ∧ Mod nil w w' := by
  go_enter Try.func15, Try.ntmps15
  go_wp2_with fail
  go_ret
  refine ⟨w.heap.size, rfl, .inr ⟨List.replicate 64 0#32, List.replicate 8 0#32, by simp, by simp, ?_⟩, Nat.le_refl _, (Mod.refl _ _).alloc _⟩
  rw [heap_alloc_new]
  rfl
theorem shaOne (tb : Nat) (T : Nat → Prop) (vb : Value) (m : List UInt8) (w : World) (ht : IsTab w tb) (hrow : IsRow T w vb (bys m)) (hTt : ∀ k, T k → k < w.heap.size ∧ k ≠ tb) (hm : m.length ≤ 1099511627000) :
    Calls Try.prog 27 #[.pointer (some ⟨tb, 0, none⟩), vb] w fun e w' => ∃ v', e = .returned v' ∧ IsVec (fun k => w.heap.size ≤ k) w' 5 1 v' 32 (bys (shaOf m)) ∧ IsTab w' tb ∧ Mod (· = tb) w w' := by
  refine (?_ : ∀ Post : Ending → World → Prop, Hid (∀ e w', (∃ v', e = .returned v' ∧ IsVec (fun k => w.heap.size ≤ k) w' 5 1 v' 32 (bys (shaOf m)) ∧ IsTab w' tb ∧ Mod (· = tb) w w') → Post e w') → Calls Try.prog 27 #[.pointer (some ⟨tb, 0, none⟩), vb] w Post) _ (Lib.hid (fun _ _ h => h))
  intro Post HPOST
  have HT := Lib.hid ht
  have HR := Lib.hid hrow
  have HTT := Lib.hid hTt
  obtain ⟨pm, cm, rfl, _⟩ := id hrow
  obtain ⟨M, hM⟩ : ∃ M, m.length = M := ⟨_, rfl⟩
  rw [bys_length, hM] at HR ⊢
  have HML := Lib.hid hM
  clear ht hrow hTt hM
  go_enter Try.func27, Try.ntmps27
  go_wp2_with fail
  refine (shaNew tb w HT.out).mono ?_
  rintro e w1 ⟨b, rfl, hh1, hb1, hf1, hm1⟩
  have htl := HT.out.lt
  have HH1 := Lib.hid hh1
  have HF1 := Lib.hid hf1
  have HM1 := Lib.hid hm1
  clear hh1 hf1 hm1
  go_wp2_with fail
  refine (shaWrite b tb hV (fun _ => False) T (.slice none 0 0) (.slice pm M cm) [] m 0 w1 HH1.out (IsVec.nil _ _ _ _) id id (by omega) (full_tab HF1.out) (HR.out.mod HM1.out (fun k _ hk e => (HTT.out k hk).2 e)) (fun h => by have := (HTT.out b h).1; omega) (by simp; omega) (by omega)).mono ?_
  rintro e w2 ⟨rfl, ⟨rv, hh2, hv2⟩, ht2, hm2⟩
  rw [List.nil_append, Nat.zero_add] at hh2
  rw [List.nil_append] at hv2
  have HH2 := Lib.hid hh2
  have HV2 := Lib.hid hv2
  have HT2 := Lib.hid ht2
  have HM2 := Lib.hid hm2
  clear hh2 hv2 ht2 hm2
  go_wp2_with fail
  refine (shaSum b tb _ _ rv (m.drop (64 * (m.length / 64))) m.length w2 HH2.out HV2.out (by omega) HT2.out (by simp; omega) (by omega)).mono ?_
  rintro e w3 ⟨v3, rfl, hv3, ht3, hm3⟩
  have hmf : Mod (· = tb) w w3 := (HM1.out.trans HM2.out (fun k hk h => h.elim id (fun h => h.elim (fun h => by omega) (fun h => h.elim)))).trans hm3 (fun _ _ h => h)
  have hvf : IsVec (fun k => w.heap.size ≤ k) w3 5 1 v3 32 (bys (shaOf m)) := hv3.mono (fun k _ hk => by have := HM1.out.size; have := HM2.out.size; omega)
  have HF := Lib.hid (And.intro hvf (And.intro ht3 hmf))
  clear hv3 ht3 hmf hvf
  go_wp2_with fail
  exact HPOST.out _ _ ⟨v3, rfl, HF.out.1, HF.out.2.1, HF.out.2.2⟩
end Go.Proofs.Ytlkhihdgaimboaa

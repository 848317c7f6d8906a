/- Bytes as texts; cflref.Bytes. -/
import Derived.Test.YtpkhjdhbkkepgaaBytes
import Derived.Laws.IdiomStrings
import Derived.Lib.BufferRead
import Derived.Test.YtpkhjdhbkkepgaaTexts
namespace Go.Proofs.Ytpkhjdhbkkepgaa
open Go.RowKit

/-- a row of bytes as a text -/
theorem rowText {T : Nat → Prop} {w : World} {v : Value} {l : List UInt8} (h : IsRow T w v (bys l)) :
    (convert 28 9 v).run Try.prog w = .ok (.string ⟨l.toArray⟩) w := by
  obtain ⟨p, c, rfl, hc⟩ := h
  rw [bys_length] at *
  cases p with
  | none =>
    have h0 : l = [] := by
      rcases l with _ | ⟨a, l⟩
      · rfl
      · obtain ⟨b, off, h1, _⟩ := hc 0 (by simp); cases h1
    subst h0
    exact Lib.run_convert_nil_bytes w _ _ 5 c Try.underlying28 Try.underlying5 Try.underlying9
  | some a =>
    refine run_convert_bytes_back w _ _ 5 a c l Try.underlying28 Try.underlying5 Try.underlying9 (fun j hj => ?_)
    obtain ⟨b, off, h1, _, _, h2⟩ := hc j hj
    simp only [Option.some.injEq] at h1
    subst h1
    have e : (⟨b, off, none⟩ : Addr).add j = ⟨b, off + j, none⟩ := by unfold Addr.add; split <;> simp_all
    rw [e, h2, bys_getD _ _ hj]
    simp [hj]
theorem refBytesSame (S T : Nat → Prop) (va vb : Value) (la lb : List UInt8) (w : World) (ha : IsRow S w va (bys la)) (hb : IsRow T w vb (bys lb)) :
    Calls Try.prog 27 #[va, vb] w fun e w' => e = .returned (.bool (decide (la = lb))) ∧ w = w' := by
  have ra := rowText (ha.modNil (Mod.refl nil w))
  have rb := rowText (hb.modNil (Mod.refl nil w))
  obtain ⟨pa, ca, rfl, _⟩ := ha
  obtain ⟨pb, cb, rfl, _⟩ := hb
  go_enter Try.func27, Try.ntmps27
  go_wp2_with fail
  go_ret
  exact ⟨congrArg Ending.returned (congrArg Value.bool (show (la == lb) = decide (la = lb) from by rw [Bool.eq_iff_iff]; simp)), rfl⟩
end Go.Proofs.Ytpkhjdhbkkepgaa

/- bytes.Clone, bytes.Equal. -/
namespace Go.Proofs.Ytpkhjdhbkkepgaa
open Go.RowKit
theorem bytesEqual (S T : Nat → Prop) (va vb : Value) (la lb : List UInt8) (w : World) (ha : IsRow S w va (bys la)) (hb : IsRow T w vb (bys lb)) :
    Calls Try.prog 61 #[va, vb] w fun e w' => e = .returned (.bool (decide (la = lb))) ∧ w = w' := by
  have ra := rowText (ha.modNil (Mod.refl nil w))
  have rb := rowText (hb.modNil (Mod.refl nil w))
  obtain ⟨pa, ca, rfl, _⟩ := ha
  obtain ⟨pb, cb, rfl, _⟩ := hb
  go_enter Try.func61, Try.ntmps61
  go_wp2_with fail
  go_ret
  exact ⟨congrArg Ending.returned (congrArg Value.bool (show (la == lb) = decide (la = lb) from by rw [Bool.eq_iff_iff]; simp)), rfl⟩
end Go.Proofs.Ytpkhjdhbkkepgaa

/- cflref.Bytes and cflref.Lists. -/
namespace Go.Proofs.Ytpkhjdhbkkepgaa
open Go.RowKit
theorem list_eq (la lb : List UInt8) : (la == lb) = decide (la = lb) := by rw [Bool.eq_iff_iff]; simp
theorem list_ne (la lb : List UInt8) : (la != lb) = !decide (la = lb) := by rw [bne, list_eq]
theorem refBytesW (S T : Nat → Prop) (va vb : Value) (la lb : List UInt8) (w : World) (ha : IsRow S w va (bys la)) (hb : IsRow T w vb (bys lb)) :
    Calls Try.prog 27 #[va, vb] w fun e w' => e = .returned (.bool (decide (la = lb))) ∧ w = w' := by
  have ra := rowText (ha.modNil (Mod.refl nil w))
  have rb := rowText (hb.modNil (Mod.refl nil w))
  obtain ⟨pa, ca, rfl, _⟩ := ha
  obtain ⟨pb, cb, rfl, _⟩ := hb
  go_enter Try.func27, Try.ntmps27
  go_wp2_with fail
  go_ret
  exact ⟨congrArg Ending.returned (congrArg Value.bool (list_eq la lb)), rfl⟩
end Go.Proofs.Ytpkhjdhbkkepgaa

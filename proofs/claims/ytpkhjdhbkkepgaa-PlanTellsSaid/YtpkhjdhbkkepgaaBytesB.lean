/- bytes.Clone, bytes.Equal. -/
import Derived.Test.YtpkhjdhbkkepgaaText
namespace Go.Proofs.Ytpkhjdhbkkepgaa
open Go.RowKit
theorem bytesEqual (S T : Nat → Prop) (va vb : Value) (la lb : List UInt8) (w : World) (ha : IsRow S w va (bys la)) (hb : IsRow T w vb (bys lb)) :
    Calls Try.prog 61 #[va, vb] w fun e w' => e = .returned (.bool (decide (la = lb))) ∧ w = w' := by
  have ra := rowText (ha.modNil (Mod.refl nil w))
  have rb := rowText (hb.modNil (Mod.refl nil w))
  obtain ⟨pa, ca, rfl, _⟩ := ha
  obtain ⟨pb, cb, rfl, _⟩ := hb
  go_enter Try.func61, Try.ntmps61
  go_wp2_with fail
  go_ret
  exact ⟨congrArg Ending.returned (congrArg Value.bool (show (la == lb) = decide (la = lb) from by rw [Bool.eq_iff_iff]; simp)), rfl⟩
end Go.Proofs.Ytpkhjdhbkkepgaa

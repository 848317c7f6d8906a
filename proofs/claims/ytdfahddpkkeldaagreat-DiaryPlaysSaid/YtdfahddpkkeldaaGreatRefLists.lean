/- cflref.Bytes and cflref.Lists. -/
import Derived.Test.YtdfahddpkkeldaaGreatEnts
import Derived.Test.YtdfahddpkkeldaaGreatBytesB
namespace Go.Proofs.YtdfahddpkkeldaaGreat
open Go.RowKit
theorem list_eq (la lb : List UInt8) : (la == lb) = decide (la = lb) := by rw [Bool.eq_iff_iff]; simp
theorem refBytesW (S T : Nat → Prop) (va vb : Value) (la lb : List UInt8) (w : World) (ha : IsRow S w va (bys la)) (hb : IsRow T w vb (bys lb)) :
  Calls Tryz.prog 25 #[va, vb] w fun e w' => e = .returned (.bool (decide (la = lb))) ∧ w = w' := by
 have ra := rowText (ha.modNil (Mod.refl nil w))
 have rb := rowText (hb.modNil (Mod.refl nil w))
 obtain ⟨pa, ca, rfl, _⟩ := ha
 obtain ⟨pb, cb, rfl, _⟩ := hb
 go_enter Tryz.func25, Tryz.ntmps25
 go_wp2_with fail
 go_ret
 exact ⟨congrArg Ending.returned (congrArg Value.bool (list_eq la lb)), rfl⟩
end Go.Proofs.YtdfahddpkkeldaaGreat

/- Bytes as texts; cflref.Bytes. -/
import Derived.Laws.IdiomStrings
import Derived.Lib.BufferRead
import Derived.Test.YtdfahddpkkeldaaGreatNb
namespace Go.Proofs.YtdfahddpkkeldaaGreat
open Go.RowKit
/-- a row of bytes as a text -/
theorem rowText {T : Nat → Prop} {w : World} {v : Value} {l : List UInt8} (h : IsRow T w v (bys l)) :
  (convert 40 9 v).run Tryz.prog w = .ok (.string ⟨l.toArray⟩) w := by
 obtain ⟨p, c, rfl, hc⟩ := h
 rw [bys_length] at *
 cases p with
 | none =>
  have h0 : l = [] := by
   rcases l with _ | ⟨a, l⟩
   ·rfl
   ·obtain ⟨b, off, h1, _⟩ := hc 0 (by simp); cases h1
  subst h0
  exact Lib.run_convert_nil_bytes w _ _ 5 c Tryz.underlying40 Tryz.underlying5 Tryz.underlying9
 | some a =>
  refine run_convert_bytes_back w _ _ 5 a c l Tryz.underlying40 Tryz.underlying5 Tryz.underlying9 (fun j hj => ?_)
  obtain ⟨b, off, h1, _, _, h2⟩ := hc j hj
  simp only [Option.some.injEq] at h1
  subst h1
  have e : (⟨b, off, none⟩ : Addr).add j = ⟨b, off + j, none⟩ := by unfold Addr.add; split <;> simp_all
  rw [e, h2, bys_getD _ _ hj]
  simp [hj]
end Go.Proofs.YtdfahddpkkeldaaGreat

/- bytes.Clone, bytes.Equal. -/
namespace Go.Proofs.YtdfahddpkkeldaaGreat
open Go.RowKit
theorem bytesClone (T : Nat → Prop) (v : Value) (l : List UInt8) (w : World) (h : IsRow T w v (bys l)) (hl : l.length ≤ 140737488355328) :
  Calls Tryz.prog 50 #[v] w fun e w' => ∃ v', e = .returned v' ∧ IsVec (fun k => w.heap.size ≤ k) w' 5 1 v' l.length (bys l) ∧ Mod nil w w' := by
 obtain ⟨p, c, rfl, hc⟩ := id h
 rw [bys_length] at *
 have heq := Lib.run_eql_slice_nil (P := Tryz.prog) w 40 5 p l.length c 0 0 Tryz.underlying40
 cases p with
 | none =>
  have h0 : l = [] := by
   rcases l with _ | ⟨a, l⟩
   ·rfl
   ·obtain ⟨b, off, h1, _⟩ := hc 0 (by simp); cases h1
  subst h0
  clear hl hc h
  simp only [List.length_nil, Option.isNone_none] at heq
  go_enter Tryz.func50, Tryz.ntmps50
  go_wp2
  go_ret
  exact ⟨_, rfl, IsVec.nil _ _ _ _, Mod.refl _ _⟩
 | some a =>
  have hv := vec_empty w 5 1
  have hx := h.modNil ((Mod.refl nil w).alloc (.cells #[] 5))
  obtain ⟨v', w', hrun, hvec, hmod⟩ := bytes_append (l := []) 40 hv hx (by simpa using hl)
  simp only [List.nil_append] at hvec
  clear hv hx h hl hc
  simp only [Option.isNone_some] at heq
  have HR := Lib.hid hrun
  clear hrun
  go_enter Tryz.func50, Tryz.ntmps50
  go_wp2_with (at_builtin; refine wpList_append_run rfl _ _ _ _ rfl rfl rfl HR.out ?_)
  go_ret
  exact ⟨_, rfl, hvec.mono (fun k _ hk => by rcases hk with hk | hk; exact hk; simp at hk; omega), ((Mod.refl nil w).alloc _).new hmod (fun _ h => h)⟩
theorem bytesEqual (S T : Nat → Prop) (va vb : Value) (la lb : List UInt8) (w : World) (ha : IsRow S w va (bys la)) (hb : IsRow T w vb (bys lb)) :
  Calls Tryz.prog 120 #[va, vb] w fun e w' => e = .returned (.bool (decide (la = lb))) ∧ w = w' := by
 have ra := rowText (ha.modNil (Mod.refl nil w))
 have rb := rowText (hb.modNil (Mod.refl nil w))
 obtain ⟨pa, ca, rfl, _⟩ := ha
 obtain ⟨pb, cb, rfl, _⟩ := hb
 go_enter Tryz.func120, Tryz.ntmps120
 go_wp2_with fail
 go_ret
 exact ⟨congrArg Ending.returned (congrArg Value.bool (show (la == lb) = decide (la = lb) from by rw [Bool.eq_iff_iff]; simp)), rfl⟩
end Go.Proofs.YtdfahddpkkeldaaGreat

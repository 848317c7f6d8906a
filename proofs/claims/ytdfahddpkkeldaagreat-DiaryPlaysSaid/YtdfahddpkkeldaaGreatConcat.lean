/- slices.Concat at byte slices. -/
import Derived.Lib.AppendZerosOnto
import Derived.Lib.SliceRun
import Derived.Test.YtdfahddpkkeldaaGreatEnts
namespace Go.Proofs.YtdfahddpkkeldaaGreat
open Go.RowKit
/-- a slice of byte slices that is read -/
def IsLs (S : Nat → Prop) (w : World) (v : Value) (ls : List (List UInt8)) : Prop := ∃ vs, IsRow S w v vs ∧ Each2 (fun x t => IsRow S w x (bys t)) vs ls
theorem IsLs.form {S : Nat → Prop} {w : World} {v : Value} {ls : List (List UInt8)} (h : IsLs S w v ls) : ∃ p c, v = .slice p ls.length c := by
 obtain ⟨vs, ⟨p, c, hv, -⟩, h2⟩ := h
 rw [each2_length h2] at hv
 exact ⟨p, c, hv⟩
theorem IsLs.mod {S T : Nat → Prop} {w w' : World} {v : Value} {ls : List (List UInt8)} (h : IsLs S w v ls) (m : Mod T w w') (hs : ∀ k, k < w.heap.size → S k → ¬ T k) : IsLs S w' v ls := by
 obtain ⟨vs, h1, h2⟩ := h
 exact ⟨vs, h1.mod m hs, each2_imp (fun _ _ r => r.mod m hs) h2⟩
theorem IsLs.modNil {S : Nat → Prop} {w w' : World} {v : Value} {ls : List (List UInt8)} (h : IsLs S w v ls) (m : Mod Go.Proofs.YtdfahddpkkeldaaGreat.nil w w') : IsLs S w' v ls := h.mod m (fun _ _ _ f => f)
theorem IsLs.at {S : Nat → Prop} {w : World} {p : Option Addr} {n c : Nat} {ls : List (List UInt8)} (h : IsLs S w (.slice p n c) ls) (i : Nat) (hi : i < ls.length) :
  ∃ b off x, p = some ⟨b, off, none⟩ ∧ S b ∧ b < w.heap.size ∧ w.cell? ⟨b, off + i, none⟩ = some x ∧ IsRow S w x (bys ls[i]) := by
 obtain ⟨vs, ⟨p', c', hv, hc⟩, h2⟩ := h
 simp only [Value.slice.injEq] at hv
 obtain ⟨rfl, -, -⟩ := hv
 have hl := each2_length h2
 obtain ⟨b, off, h1, h3, h4, h5⟩ := hc i (by omega)
 obtain ⟨h', hr⟩ := each2_get h2 i (by omega)
 refine ⟨b, off, vs[i], h1, h3, h4, ?_, hr⟩
 rw [h5, List.getD_eq_getElem?_getD, List.getElem?_eq_getElem (by omega)]; rfl
/-- three slices in a block of their own -/
theorem IsLs.three {S : Nat → Prop} {w : World} {g : Nat} {x y z : Value} {a b c : List UInt8} {T : TypeId} (h : w.heap[g]? = some (.cells #[x, y, z] T (0, 0))) (hg : S g) (hx : IsRow S w x (bys a)) (hy : IsRow S w y (bys b)) (hz : IsRow S w z (bys c)) : IsLs S w (.slice (some ⟨g, 0, none⟩) 3 3) [a, b, c] :=
 ⟨[x, y, z], IsRow.ofBlock (xs := [x, y, z]) h hg 3 3 rfl, hx, hy, hz, trivial⟩
theorem growNil (n : Nat) (w : World) (hn : n ≤ 1099511627776) :
  Calls Tryz.prog 93 #[.slice none 0 0, .int .i64 n] w fun e w' => ∃ v, e = .returned v ∧ IsVec (fun k => w.heap.size ≤ k) w' 5 1 v 0 [] ∧ Mod nil w w' := by
 by_cases h0 : n = 0
 ·subst h0
  go_enter Tryz.func93, Tryz.ntmps93
  go_wp2_with fail
  go_ret
  exact ⟨_, rfl, IsVec.nil _ _ _ _, Mod.refl _ _⟩
 ·obtain ⟨i0, hi0, hz0, hz1, hz2⟩ := info_parts info_u8
  have hrun : ∀ ty, (Builtin.append_ #[40, 3] ty #[.slice none 0 0, .int .i64 (n : Int)]).run Tryz.prog w = .ok (.slice (some ⟨w.heap.size, 0, none⟩) n (grownCap w n 0 5)) (w.drew.alloc (.cells (#[] ++ Builtin.zeroCells #[.int .u8 0] n ++ Builtin.zeroCells #[.int .u8 0] (grownCap w n 0 5 - n)) 5)) := fun ty => by
   have h := Lib.run_append_grow_zeros (P := Tryz.prog) w 40 3 ty 5 i0 _ .i64 .i64 Tryz.underlying40 Tryz.underlying3 hi0 hz0 none 0 0 [] (run_firstCells_none w.drew i0.size 0 0 0) n (by omega) (by rw [hz1]; omega) (by omega) (by omega) (by rw [hz2]; omega) (growslice_fits (by omega) (by rw [hz2]; omega))
   rw [Nat.zero_add] at h
   exact h
  have hge : n ≤ grownCap w n 0 5 := grownCap_ge w _ _ _
  have hle := grownCap_le_maxLen w n 0 5 (by unfold maxLen; omega)
  have hsz : (#[] ++ Builtin.zeroCells #[.int .u8 0] n ++ Builtin.zeroCells #[.int .u8 0] (grownCap w n 0 5 - n)).size = grownCap w n 0 5 := by
   rw [Array.size_append, Array.size_append, size_zeroCells, size_zeroCells]; simp; omega
  obtain ⟨G, hG⟩ : ∃ G, grownCap w n 0 5 = G := ⟨_, rfl⟩
  rw [hG] at hrun hge hle hsz
  obtain ⟨cur, hcur⟩ : ∃ cur, #[] ++ Builtin.zeroCells #[.int .u8 0] n ++ Builtin.zeroCells #[.int .u8 0] (G - n) = cur := ⟨_, rfl⟩
  rw [hcur] at hrun hsz
  have HSZ := Lib.hid hsz
  have HLE := Lib.hid hle
  unfold maxLen at hle
  have HRUN := Lib.hid hrun
  clear hrun hcur hG hi0 hz0 hz1 hz2 hsz
  go_enter Tryz.func93, Tryz.ntmps93
  go_wp2_with (at_builtin; refine wpList_append_run rfl _ _ _ _ rfl rfl rfl (HRUN.out _) ?_)
  go_ret
  refine ⟨_, rfl, ⟨⟨by simp, .inr ⟨w.heap.size, G, cur, rfl, Nat.zero_le _, heap_alloc_new w.drew _, Nat.zero_le _, HLE.out, by rw [HSZ.out, Nat.mul_one], by simp⟩⟩, fun k hk => by simp [Value.ownBlock] at hk; omega⟩, (Mod.refl _ _).drew.alloc _⟩
def lenTo (ls : List (List UInt8)) (i : Nat) : Nat := (ls.take i).flatten.length
theorem lenTo_succ (ls : List (List UInt8)) (i : Nat) (h : i < ls.length) : lenTo ls (i + 1) = lenTo ls i + ls[i].length := by
 unfold lenTo
 rw [List.take_succ_eq_append_getElem h, List.flatten_append, List.length_append]; simp
theorem lenTo_le (ls : List (List UInt8)) (i : Nat) : lenTo ls i ≤ ls.flatten.length := by
 unfold lenTo
 conv => rhs; rw [← List.take_append_drop i ls, List.flatten_append, List.length_append]
 omega
set_option maxRecDepth 100000 in
set_option maxHeartbeats 1000000 in
theorem concatBytes (S : Nat → Prop) (v : Value) (ls : List (List UInt8)) (w : World) (h : IsLs S w v ls) (hn : ls.length ≤ 1000000) (ht : ls.flatten.length ≤ 1099511627776) :
  Calls Tryz.prog 63 #[v] w fun e w' => ∃ v', e = .returned v' ∧ IsVec (fun k => w.heap.size ≤ k) w' 5 1 v' ls.flatten.length (bys ls.flatten) ∧ Mod nil w w' := by
 refine (?_ : ∀ Post : Ending → World → Prop, Hid (∀ e w', (∃ v', e = .returned v' ∧ IsVec (fun k => w.heap.size ≤ k) w' 5 1 v' ls.flatten.length (bys ls.flatten) ∧ Mod nil w w') → Post e w') → Calls Tryz.prog 63 #[v] w Post) _ (Lib.hid (fun _ _ h => h))
 intro Post HPOST
 obtain ⟨p, c, rfl⟩ := h.form
 have HLS := Lib.hid h
 obtain ⟨n, hnl⟩ : ∃ n, ls.length = n := ⟨_, rfl⟩
 rw [hnl] at HLS hn
 rw [hnl]
 have HNL := Lib.hid hnl
 have HT := Lib.hid ht
 clear h hnl ht
 go_enter Tryz.func63, Tryz.ntmps63
 go_wp2_with fail
 go_loop [3, 11] (fun v3 v11 => ∃ i m : Nat, i ≤ n ∧ v11 = .int .i64 i ∧ v3 = .int .i64 m ∧ Hid (lenTo ls i = m)) (fun _ v => n - (intOf v).toNat)
 case atStart => exact ⟨0, 0, by omega, rfl, rfl, Lib.hid rfl⟩
 case round =>
  obtain ⟨i, m, hi, rfl, rfl, HM⟩ := hrel
  have hm0 : m ≤ 1099511627776 := by rw [← HM.out]; exact Nat.le_trans (lenTo_le _ _) HT.out
  by_cases hlt : i < n
  ·obtain ⟨b, off, x, rfl, -, hb, hx, hrow⟩ := HLS.out.at i (by rw [HNL.out]; exact hlt)
   have hsucc := lenTo_succ ls i (by rw [HNL.out]; exact hlt)
   obtain ⟨t, htt⟩ : ∃ t, ls[i]'(by rw [HNL.out]; exact hlt) = t := ⟨_, rfl⟩
   rw [htt] at hrow hsucc
   obtain ⟨px, cx, rfl, -⟩ := hrow
   rw [bys_length] at hx
   obtain ⟨T, hT⟩ : ∃ T, t.length = T := ⟨_, rfl⟩
   rw [hT] at hx hsucc
   have hb1 := lenTo_le ls (i + 1)
   have hm1 : m + T ≤ 1099511627776 := by have := HT.out; have := HM.out; omega
   have HS : Hid (lenTo ls (i + 1) = m + T) := Lib.hid (by rw [hsucc, HM.out])
   have hadd : IntKind.i64.wrap ((m : Int) + (T : Int)) = ((m + T : Nat) : Int) := by rw [IntKind.wrap_i64]; omega
   clear hsucc htt hT hb1
   go_wp2_with fail
   go_round
   case rel => exact ⟨i + 1, m + T, by omega, by go_num, by go_num, HS⟩
   case measure => simp [intOf]; omega
  ·obtain rfl : i = n := by omega
   have HLM : Hid (m = ls.flatten.length) := Lib.hid (by rw [← HM.out]; unfold lenTo; rw [List.take_of_length_le (by rw [HNL.out]; exact Nat.le_refl _)])
   go_wp2_with fail
   refine (growNil m w hm0).mono ?_
   rintro e w1 ⟨v1, rfl, hv1, hmm1⟩
   have HV1 := Lib.hid hv1
   have HM1 := Lib.hid hmm1
   obtain ⟨p1, c1, rfl⟩ := hv1.form
   clear hv1 hmm1 HM
   go_wp2_with fail
   go_loopw [6, 27] (fun v6 v27 wr => ∃ (j m : Nat) (q : Option Addr) (cq : Nat), j ≤ i ∧ v27 = .int .i64 j ∧ v6 = .slice q m cq ∧ Hid (lenTo ls j = m) ∧ Hid (IsVec (fun k => w.heap.size ≤ k) wr 5 1 (.slice q m cq) m (bys (ls.take j).flatten)) ∧ Hid (Mod nil w wr)) (fun _ v _ => i - (intOf v).toNat)
   case atStart => exact ⟨0, 0, p1, c1, by omega, rfl, rfl, Lib.hid rfl, Lib.hid (by simpa [bys] using HV1.out), HM1⟩
   case round =>
    obtain ⟨j, m2, q, cq, hj, rfl, rfl, HM2, HV, HMW⟩ := hrel
    by_cases hlt2 : j < i
    ·obtain ⟨b, off, x, rfl, -, hb, hx, hrow⟩ := (HLS.out.modNil HMW.out).at j (by rw [HNL.out]; exact hlt2)
     have hsucc := lenTo_succ ls j (by rw [HNL.out]; exact hlt2)
     have htake := List.take_succ_eq_append_getElem (l := ls) (i := j) (by rw [HNL.out]; exact hlt2)
     obtain ⟨t, htt⟩ : ∃ t, ls[j]'(by rw [HNL.out]; exact hlt2) = t := ⟨_, rfl⟩
     rw [htt] at hrow hsucc htake
     have hb1 := lenTo_le ls (j + 1)
     have hv0 := HV.out
     have hml : (ls.take j).flatten.length = m2 := HM2.out
     rw [← hml] at hv0
     obtain ⟨v8, w8, hrun, hvec, hmod⟩ := bytes_append (l := (ls.take j).flatten) (m := t) 40 hv0 hrow (by have := HT.out; have := HM2.out; omega)
     rw [hml] at hrun
     have hfl : (ls.take j).flatten ++ t = (ls.take (j + 1)).flatten := by rw [htake, List.flatten_append]; simp
     rw [hfl] at hvec
     obtain ⟨p8, c8, rfl⟩ := hvec.form
     obtain ⟨M, hM⟩ : ∃ M, (ls.take (j + 1)).flatten.length = M := ⟨_, rfl⟩
     rw [hM] at hrun hvec
     have HM : Hid (lenTo ls (j + 1) = M) := Lib.hid hM
     have HRUN := Lib.hid hrun
     have HV8 : Hid (IsVec (fun k => w.heap.size ≤ k) w8 5 1 (.slice p8 M c8) M (bys (ls.take (j + 1)).flatten)) := Lib.hid (hvec.mono (fun k _ h => h.elim id (fun h => Nat.le_trans HMW.out.size h)))
     have HM8 : Hid (Mod nil w w8) := Lib.hid (HMW.out.new hmod (fun k h => h))
     clear hsucc htake htt hb1 hv0 hml hrun hvec hmod hfl hM hrow
     go_wp2_with (at_builtin; refine wpList_append_run rfl _ _ _ _ rfl rfl rfl HRUN.out ?_)
     exact ⟨⟨j + 1, M, p8, c8, by omega, by go_num, rfl, HM, HV8, HM8⟩, by simp [intOf]; omega⟩
    ·obtain rfl : j = i := by omega
     have HE : Hid (Post (.returned (.slice q m2 cq)) wr) := Lib.hid (HPOST.out _ _ ⟨_, rfl, by
      have h := HV.out
      have hm := HM2.out
      unfold lenTo at hm
      rw [List.take_of_length_le (by rw [HNL.out]; exact Nat.le_refl _)] at h hm
      rw [hm]
      exact h, HMW.out⟩)
     clear HV HMW
     go_wp2_with fail
     exact HE.out
end Go.Proofs.YtdfahddpkkeldaaGreat

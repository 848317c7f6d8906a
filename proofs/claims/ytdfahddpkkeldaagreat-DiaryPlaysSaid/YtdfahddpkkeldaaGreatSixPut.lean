/- cflref6: Text. (Printed by wip/tools/gen_reftext.py.) -/
import Derived.Lib.SlBytesConst
import Derived.Test.YtdfahddpkkeldaaGreatShort
import Derived.Test.YtdfahddpkkeldaaGreatRefEncF
import Derived.Test.YtdfahddpkkeldaaGreatRefDec
import Derived.Test.YtdfahddpkkeldaaGreatRefShaD
import Derived.Test.YtdfahddpkkeldaaGreatFrameD
set_option linter.unusedSimpArgs false
set_option linter.unusedVariables false
namespace Go.Proofs.YtdfahddpkkeldaaGreat
open Go.RowKit
theorem sixTextLong (nb cb : Nat) (pb : Option Addr) (kind gen seq : Int) (w : World) (h4 : 60000 < nb) :
  Calls Tryz.prog 97 #[.agg #[.int .i64 kind, .int .i64 gen, .int .i64 seq, .slice pb nb cb]] w fun e w' => e = .returned (.tuple #[.slice none 0 0, .int .i64 3]) ∧ Mod nil w w' := by
 have h5 : (60000 : Int) < (nb : Int) := by omega
 go_enter Tryz.func97, Tryz.ntmps97
 go_wp2_with fail
 go_ret2
 exact ⟨rfl, (Mod.refl _ _).alloc _⟩
/-- append to a byte slice of the program's own, by the lengths -/
theorem six_append {S T : Nat → Prop} {w : World} (ty : TypeId) {v x : Value} {l m : List UInt8} {n k : Nat} (hn : l.length = n) (hk : m.length = k) (hv : IsVec S w 5 1 v n (bys l)) (hx : IsRow T w x (bys m)) (hb : n + k ≤ 140737488355328) :
  ∃ p c w', (Builtin.append_ #[40, 40] ty #[v, x]).run Tryz.prog w = .ok (.slice p (n + k) c) w' ∧ IsVec (fun j => S j ∨ w.heap.size ≤ j) w' 5 1 (.slice p (n + k) c) (n + k) (bys (l ++ m)) ∧ Mod S w w' := by
 subst hn; subst hk
 obtain ⟨v', w', h1, h2, h3⟩ := bytes_append (l := l) (m := m) ty hv hx hb
 rw [List.length_append] at h2
 obtain ⟨p, c, rfl⟩ := h2.form
 exact ⟨p, c, w', h1, h2, h3⟩
set_option maxRecDepth 100000 in
set_option maxHeartbeats 4000000 in
theorem sixText (kind gen seq nb cb : Nat) (pb : Option Addr) (T : Nat → Prop) (body : List UInt8) (w : World) (hrow : IsRow T w (.slice pb nb cb) (bys body)) (hT : ∀ k, T k → k < w.heap.size)
  (h1 : kind ≤ 255) (h2 : gen ≤ 4294967295) (h3 : seq ≤ 4294967295) (h4 : nb ≤ 60000) :
  Calls Tryz.prog 97 #[.agg #[.int .i64 (kind : Nat), .int .i64 (gen : Nat), .int .i64 (seq : Nat), .slice pb nb cb]] w fun e w' => ∃ v, e = .returned (.tuple #[v, .int .i64 0]) ∧ IsVec (fun k => w.heap.size ≤ k) w' 5 1 v (24 + nb) (bys (textF kind gen seq body)) ∧ Mod nil w w' := by
 refine (?_ : ∀ Post : Ending → World → Prop, Hid (∀ e w', (∃ v, e = .returned (.tuple #[v, .int .i64 0]) ∧ IsVec (fun k => w.heap.size ≤ k) w' 5 1 v (24 + nb) (bys (textF kind gen seq body)) ∧ Mod nil w w') → Post e w') → Calls Tryz.prog 97 #[.agg #[.int .i64 (kind : Nat), .int .i64 (gen : Nat), .int .i64 (seq : Nat), .slice pb nb cb]] w Post) _ (Lib.hid (fun _ _ h => h))
 intro Post HPOST
 have hbl : body.length = nb := by
  obtain ⟨_, _, h, _⟩ := hrow
  simp only [Value.slice.injEq, bys_length] at h
  exact h.2.1.symm
 have HBL := Lib.hid hbl
 have HROW := Lib.hid hrow
 have HTT := Lib.hid hT
 have h5 : ¬ (60000 : Int) < (nb : Int) := by omega
 clear hrow hT hbl
 go_enter Tryz.func97, Tryz.ntmps97
 go_wp2_with fail
 obtain ⟨G, hG⟩ : ∃ G, w.heap.size = G := ⟨_, rfl⟩
 rw [hG]
 generalize hw1 : World.alloc w _ = w1
 have hx1 : w1.heap[G]? = some (.cells #[.int .i64 (kind : Nat), .int .i64 (gen : Nat), .int .i64 (seq : Nat), .slice pb nb cb] 122 (0, 0)) := by rw [← hw1, ← hG]; exact heap_alloc_new _ _
 have hm1 : Mod nil w w1 := by rw [← hw1]; exact (Mod.refl _ _).alloc _
 have hs1 : w1.heap.size = G + 1 := by rw [← hw1, ← hG]; simp
 have HG := Lib.hid hG
 have HKEEP : Hid (∀ W, Mod (fun k => G < k) w1 W → W.cell? ⟨G, 0, none⟩ = some (.int .i64 (kind : Nat)) ∧ W.cell? ⟨G, 1, none⟩ = some (.int .i64 (gen : Nat)) ∧ W.cell? ⟨G, 2, none⟩ = some (.int .i64 (seq : Nat)) ∧ W.cell? ⟨G, 3, none⟩ = some (.slice pb nb cb)) := Lib.hid (fun W m => by
  have hx := (m.block G (heap_lt hx1) (by omega)).trans hx1
  exact ⟨cell_of hx 0, cell_of hx 1, cell_of hx 2, cell_of hx 3⟩)
 have HM1 := Lib.hid hm1
 have HROW1 := Lib.hid (HROW.out.modNil hm1)
 obtain ⟨a0, a1, a2, a3⟩ := HKEEP.out w1 (Mod.refl _ _)
 have HS1 := Lib.hid hs1
 clear hw1 hx1 hm1 hs1 hG
 refine (refFits1 (kind : Nat) w1 (by omega) (by omega)).mono ?_
 rintro e w1 ⟨rfl, rfl⟩
 go_wp2_with fail
 refine (refFits4 (gen : Nat) w1 (by omega) (by omega)).mono ?_
 rintro e w1 ⟨rfl, rfl⟩
 go_wp2_with fail
 refine (refFits4 (seq : Nat) w1 (by omega) (by omega)).mono ?_
 rintro e w1 ⟨rfl, rfl⟩
 go_upto_region 6 with (fail)
 obtain ⟨b, hb⟩ : ∃ b, w1.heap.size = b := ⟨_, rfl⟩
 (try rw [hb])
 generalize hw2 : World.alloc w1 _ = w2
 have hb2 : w2.heap[b]? = some (.cells #[.slice none 0 0, .int .i64 0] 111 (0, 0)) := by rw [← hw2, ← hb]; exact heap_alloc_new _ _
 have hm2 : Mod nil w1 w2 := by rw [← hw2]; exact (Mod.refl _ _).alloc _
 have hbG : b = G + 1 := by rw [← hb]; exact HS1.out
 have hs2 : w2.heap.size = G + 2 := by rw [← hw2, World.size_alloc, HS1.out]
 have HE : Hid (IsREnc (fun k => G < k) w2 b []) := Lib.hid ⟨by omega, none, 0, hb2, IsVec.nil _ _ _ _⟩
 have M : Hid (Mod (fun k => G < k) w1 w2) := Lib.hid hm2.ofNil
 have HBG : Hid (b = G + 1) := Lib.hid hbG
 have HS2 := Lib.hid hs2
 clear a0 a1 a2 a3
 obtain ⟨a0, a1, a2, a3⟩ := HKEEP.out w2 M.out
 clear hw2 hb2 hm2 hb hbG hs2
 have kc := Lib.run_convert_bytes_const (P := Tryz.prog) w2 40 5 #[.int .u8 99, .int .u8 102] 2 2 Tryz.underlying40 Tryz.underlying5
 go_wp2_with fail
 obtain ⟨g3, hg3⟩ : ∃ b, w2.heap.size = b := ⟨_, rfl⟩
 (try rw [hg3])
 generalize hw3 : World.alloc w2 _ = w3
 have hm3 : Mod nil w2 w3 := by rw [← hw3]; exact (Mod.refl _ _).alloc _
 have hr3 : IsRow (fun k => k = g3) w3 (.slice (some ⟨g3, 0, none⟩) 2 2) (bys [99, 102]) := by
  refine ⟨_, _, rfl, fun i hi => ⟨g3, 0, rfl, rfl, ?_, ?_⟩⟩
  ·rw [← hw3, World.size_alloc]; omega
  ·rw [← hw3, ← hg3, World.cell?_alloc_mark]
   have : i = 0 ∨ i = 1 := by simp [bys] at hi; omega
   rcases this with rfl | rfl <;> rfl
 have HE3 : Hid (IsREnc (fun k => G < k) w3 b []) := Lib.hid (HE.out.modNil hm3)
 have M3 : Hid (Mod (fun k => G < k) w1 w3) := Lib.hid (M.out.thenNil hm3)
 clear HE M a0 a1 a2 a3 kc
 have M := M3
 obtain ⟨a0, a1, a2, a3⟩ := HKEEP.out w3 M.out
 refine (refRaw (fun k => G < k) (fun k => k = g3) b [] [99, 102] _ w3 HE3.out (fun k hk => by have := M.out.size; have := HS1.out; omega) hr3 (by simp)).mono ?_
 rintro e w4 ⟨rfl, he2, m2⟩
 have HE := Lib.hid he2
 have M2 := Lib.hid (M.out.trans m2 (fun _ _ h => h))
 clear HE3 M he2 m2 M3 hw3 hm3 hr3 a0 a1 a2 a3 hg3
 have M := M2
 clear M2
 obtain ⟨a0, a1, a2, a3⟩ := HKEEP.out w4 M.out
 go_wp2_with fail
 refine (refNumS (fun k => G < k) b _ (kind : Nat) 1 1 w4 HE.out (fun k hk => by have := M.out.size; have := HS1.out; omega) rfl (by omega) (by omega) (by omega) (by simp; omega) (by simp only [List.length_append, nb_length]; simp)).mono ?_
 rintro e w5 ⟨rfl, he2, m2⟩
 have HE2 := Lib.hid he2
 have M2 := Lib.hid (M.out.trans m2 (fun _ _ h => h))
 clear HE M he2 m2
 have HE := HE2
 have M := M2
 clear HE2 M2 a0 a1 a2 a3
 obtain ⟨a0, a1, a2, a3⟩ := HKEEP.out w5 M.out
 go_wp2_with fail
 refine (refNumS (fun k => G < k) b _ 0 1 1 w5 HE.out (fun k hk => by have := M.out.size; have := HS1.out; omega) rfl (by omega) (by omega) (by omega) (by simp) (by simp only [List.length_append, nb_length]; simp)).mono ?_
 rintro e w6 ⟨rfl, he2, m2⟩
 have HE2 := Lib.hid he2
 have M2 := Lib.hid (M.out.trans m2 (fun _ _ h => h))
 clear HE M he2 m2
 have HE := HE2
 have M := M2
 clear HE2 M2 a0 a1 a2 a3
 obtain ⟨a0, a1, a2, a3⟩ := HKEEP.out w6 M.out
 go_wp2_with fail
 refine (refNumS (fun k => G < k) b _ (gen : Nat) 4 4 w6 HE.out (fun k hk => by have := M.out.size; have := HS1.out; omega) rfl (by omega) (by omega) (by omega) (by simp; omega) (by simp only [List.length_append, nb_length]; simp)).mono ?_
 rintro e w7 ⟨rfl, he2, m2⟩
 have HE2 := Lib.hid he2
 have M2 := Lib.hid (M.out.trans m2 (fun _ _ h => h))
 clear HE M he2 m2
 have HE := HE2
 have M := M2
 clear HE2 M2 a0 a1 a2 a3
 obtain ⟨a0, a1, a2, a3⟩ := HKEEP.out w7 M.out
 go_wp2_with fail
 refine (refNumS (fun k => G < k) b _ (seq : Nat) 4 4 w7 HE.out (fun k hk => by have := M.out.size; have := HS1.out; omega) rfl (by omega) (by omega) (by omega) (by simp; omega) (by simp only [List.length_append, nb_length]; simp)).mono ?_
 rintro e w8 ⟨rfl, he2, m2⟩
 have HE2 := Lib.hid he2
 have M2 := Lib.hid (M.out.trans m2 (fun _ _ h => h))
 clear HE M he2 m2
 have HE := HE2
 have M := M2
 clear HE2 M2 a0 a1 a2 a3
 obtain ⟨a0, a1, a2, a3⟩ := HKEEP.out w8 M.out
 go_wp2_with fail
 refine (refNumS (fun k => G < k) b _ (nb : Nat) 4 4 w8 HE.out (fun k hk => by have := M.out.size; have := HS1.out; omega) rfl (by omega) (by omega) (by omega) (by simp; omega) (by simp only [List.length_append, nb_length]; simp)).mono ?_
 rintro e w9 ⟨rfl, he2, m2⟩
 have HE2 := Lib.hid he2
 have M2 := Lib.hid (M.out.trans m2 (fun _ _ h => h))
 clear HE M he2 m2
 have HE := HE2
 have M := M2
 clear HE2 M2 a0 a1 a2 a3
 obtain ⟨a0, a1, a2, a3⟩ := HKEEP.out w9 M.out
 go_wp2_with fail
 have hST : [] ++ [99, 102] ++ Go.Proofs.YtdfahddpkkeldaaGreat.nb (kind : Nat) 1 ++ Go.Proofs.YtdfahddpkkeldaaGreat.nb 0 1 ++ Go.Proofs.YtdfahddpkkeldaaGreat.nb (gen : Nat) 4 ++ Go.Proofs.YtdfahddpkkeldaaGreat.nb (seq : Nat) 4 ++ Go.Proofs.YtdfahddpkkeldaaGreat.nb (nb : Nat) 4 = startsF kind gen seq nb := rfl
 rw [hST] at HE
 obtain ⟨ST, hST2⟩ : ∃ ST, startsF kind gen seq nb = ST := ⟨_, rfl⟩
 have hsl : ST.length = 16 := by rw [← hST2]; exact startsF_length _ _ _ _
 rw [hST2] at HE
 have HST := Lib.hid hST2
 have HSL := Lib.hid hsl
 obtain ⟨p8, q8, hb9, hv9⟩ := HE.out.ex
 rw [hsl] at hb9 hv9
 have HROW9 : Hid (IsRow T w9 (.slice pb nb cb) (bys body)) := Lib.hid (HROW1.out.mod M.out (fun k _ h e => by have := HTT.out k h; have := HG.out; omega))
 have HK : Hid (∀ W, Mod nil w9 W → W.cell? ⟨b, 0, none⟩ = some (.slice p8 16 q8) ∧ W.cell? ⟨G, 3, none⟩ = some (.slice pb nb cb)) := Lib.hid (fun W m => ⟨cell_of (m.keep hb9) 0, (HKEEP.out W (M.out.thenNil m)).2.2.2⟩)
 have HCB : Hid (∀ W, Mod nil w9 W → Calls Tryz.prog 34 #[.slice p8 16 q8] W fun e w' => ∃ v', e = .returned v' ∧ IsVec (fun k => W.heap.size ≤ k) w' 5 1 v' 16 (bys ST) ∧ Mod nil W w') := Lib.hid (fun W m => by
  have h := refCopyBytes (fun k => G < k ∧ k ≠ b) (.slice p8 16 q8) ST W (hv9.modNil m).row (by omega)
  rw [hsl] at h
  exact h)
 have HHASH : Hid (∀ (T2 : Nat → Prop) (v : Value) (W : World), IsRow T2 W v (bys (ST ++ body)) → Mod nil w9 W → Calls Tryz.prog 82 #[v] W fun e w' => ∃ p c, e = .returned (.slice p 32 c) ∧ IsVec (fun k => W.heap.size ≤ k) w' 5 1 (.slice p 32 c) 32 (bys (shaOf (ST ++ body))) ∧ Mod nil W w') := Lib.hid (fun T2 v W h _ => by
  refine (refHash T2 v (ST ++ body) W h (by rw [List.length_append, hsl, HBL.out]; omega)).mono ?_
  rintro e w' ⟨v', rfl, hv, hm⟩
  obtain ⟨p, c, rfl⟩ := hv.form
  exact ⟨p, c, rfl, hv, hm⟩)
 have HV9 := Lib.hid hv9
 have HB9 := Lib.hid hb9
 have hm90 : Mod nil w9 w9 := Mod.refl _ _
 clear a0 a1 a2 a3 hb9 hv9 hST hST2 hsl
 refine wp_region_held_drew (S := (fun w' => w'.cell? ⟨b, 0, none⟩ = some (.slice p8 16 q8) ∧ w'.cell? ⟨G, 3, none⟩ = some (.slice pb nb cb))) (by kernel_rfl) (HK.out _ mD) (fun hHeld => ?_)
 refine sH 0 ?_
 refine sH 1 ?_
 refine sH 2 ?_
 refine sH 3 ?_
 refine sH 5 ?_
 refine sH 6 ?_
 refine rH 4 (fun K hK => ?_)
 go_simp
 refine (HCB.out _ ?_).mono ?_
 ·exact mD
 rintro e wa ⟨va, rfl, hva, hma⟩
 have hma' : Mod nil w9 wa := (show Mod nil w9 _ from mD).thenNil hma
 obtain ⟨px, cx, wx, hrunx, hvx, hmx⟩ := six_append 40 HSL.out HBL.out hva (HROW9.out.modNil hma') (by omega)
 have hmx' : Mod nil w9 wx := hma'.new hmx (fun k hk => hk)
 refine hK.out _ _ (HK.out _ mD) (fun hHeld => ?_)
 clear hK K
 (try simp only [Act.put, pT])
 refine rH 7 (fun K hK => ?_)
 refine step_append_run rfl _ _ _ _ rfl rfl rfl hrunx ?_
 refine hK.out _ _ (HK.out _ mD) (fun hHeld => ?_)
 clear hK K
 (try simp only [Act.put, pT])
 refine rH 8 (fun K hK => ?_)
 go_simp
 refine (HHASH.out _ _ _ (hvx.modNil (Mod.refl _ _)).row ?_).mono ?_
 ·exact mD
 rintro e wy ⟨py, cy, rfl, hvy, hmy⟩
 have hmy' : Mod nil w9 wy := (show Mod nil w9 _ from mD).thenNil hmy
 have HVY := Lib.hid hvy
 have HMY := Lib.hid hmy'
 refine hK.out _ _ (HK.out _ mD) (fun hHeld => ?_)
 clear hK K
 (try simp only [Act.put, pT])
 refine sH 9 ?_
 refine wpAnyH_done (by kernel_rfl) ?_ _
 clear hHeld
 have HE2 := Lib.hid (HE.out.modNil HMY.out)
 have M2 := Lib.hid (M.out.thenNil HMY.out)
 clear HE M HVY HMY
 have HE := HE2
 have M := M2
 obtain ⟨a0, a1, a2, a3⟩ := HKEEP.out wy M.out
 obtain ⟨py, cy, hfy, hc6, hcm6⟩ := vecCap hvy
 simp only [Value.slice.injEq, true_and] at hfy
 obtain ⟨rfl, rfl⟩ := hfy
 have hrow6 : IsRow (fun k => wx.heap.size ≤ k) wy (.slice py 8 cy) (bys ((shaOf (ST ++ body)).take 8)) := by
  rw [bysTake]
  exact rowFront hvy.row 8 (by rw [bys_length, shaOf_length]; omega)
 have HR6 := Lib.hid hrow6
 have HT8 : Hid (((shaOf (ST ++ body)).take 8).length = 8) := Lib.hid (by rw [List.length_take, shaOf_length]; rfl)
 clear hrow6 hvy
 go_wp2_with fail
 refine (refRaw (fun k => G < k) _ b ST _ _ wy HE.out (fun k hk => by have := M.out.size; have := HS1.out; omega) HR6.out (by rw [HT8.out, HSL.out]; simp)).mono ?_
 rintro e wz ⟨rfl, he2, m2⟩
 have HE2 := Lib.hid he2
 have M2 := Lib.hid (M.out.trans m2 (fun _ _ h => h))
 clear HE M he2 m2 a0 a1 a2 a3
 have HE := HE2
 have M := M2
 clear HE2 M2
 obtain ⟨a0, a1, a2, a3⟩ := HKEEP.out wz M.out
 go_wp2_with fail
 refine (refRaw (fun k => G < k) T b _ body _ wz HE.out (fun k hk => by have := M.out.size; have := HS1.out; omega) (HROW1.out.mod M.out (fun k _ h e => by have := HTT.out k h; have := HG.out; omega)) (by rw [List.length_append, HT8.out, HSL.out, HBL.out]; omega)).mono ?_
 rintro e wt ⟨rfl, he2, m2⟩
 have HE2 := Lib.hid he2
 have M2 := Lib.hid (M.out.trans m2 (fun _ _ h => h))
 clear HE M he2 m2 a0 a1 a2 a3
 have HE := HE2
 have M := M2
 clear HE2 M2
 obtain ⟨p10, q10, hb10, hv10⟩ := HE.out.ex
 have hl10 : (ST ++ (shaOf (ST ++ body)).take 8 ++ body).length = 24 + nb := by rw [List.length_append, List.length_append, HT8.out, HSL.out, HBL.out]
 rw [hl10] at hb10 hv10
 have c0 := cell_of hb10 0
 simp only [List.getElem?_toArray, List.getElem?_cons_zero] at c0
 have HF : Hid (IsVec (fun k => w.heap.size ≤ k) wt 5 1 (.slice p10 (24 + nb) q10) (24 + nb) (bys (textF kind gen seq body)) ∧ Mod nil w wt) := Lib.hid (by
  refine ⟨?_, HM1.out.new M.out (fun k hk => by have := HG.out; omega)⟩
  unfold textF
  rw [HBL.out, HST.out]
  exact hv10.mono (fun k hk h => by have := HG.out; omega))
 clear hb10 hv10 hl10
 go_wp2_with fail
 exact HPOST.out _ _ ⟨_, rfl, HF.out.1, HF.out.2⟩
end Go.Proofs.YtdfahddpkkeldaaGreat

/- cflref6: Put. (Printed by wip/tools/gen_sixput.py.) -/
namespace Go.Proofs.YtdfahddpkkeldaaGreat
open Go.RowKit
def vlen : Value → Nat
 | .slice _ n _ => n
 | _ => 0
/-- the sectors' marks and bytes, so many rounds, without what fills the last one up -/
def rawTo (t : List UInt8) : Nat → List UInt8
 | 0 => []
 | j + 1 => rawTo t j ++ ((if j = 0 then 1 else 2) :: (t.drop (63 * j)).take 63)
theorem rawTo_length (t : List UInt8) (j : Nat) : (rawTo t j).length = j + min (63 * j) t.length := by
 induction j with
 | zero => rfl
 | succ j ih => rw [rawTo, List.length_append, ih, List.length_cons, List.length_take, List.length_drop]; omega
theorem rawTo_step (t : List UInt8) (k : Nat) (ih : rawTo t k = (sectsTo t k).set 0 1) : rawTo t (k + 1) ++ List.replicate (63 - ((t.drop (63 * k)).take 63).length) 0 = (sectsTo t (k + 1)).set 0 1 := by
 rw [rawTo, sectsTo, ih]
 cases k with
 | zero => simp [sectsTo, sect2, fillTo]
 | succ k =>
  have hl := sectsTo_length t (k + 1)
  rw [List.set_append_left _ _ (by rw [hl]; omega)]
  simp [sect2, fillTo]
theorem rawTo_full (t : List UInt8) (k : Nat) (h : 63 * k ≤ t.length) : rawTo t k = (sectsTo t k).set 0 1 := by
 induction k with
 | zero => rfl
 | succ k ih =>
  have h1 := rawTo_step t k (ih (by omega))
  rw [show 63 - ((t.drop (63 * k)).take 63).length = 0 by rw [List.length_take, List.length_drop]; omega] at h1
  rw [← h1]
  simp
theorem rawTo_put (kind gen seq : Nat) (body : List UInt8) : rawTo (textF kind gen seq body) (sectorsF body.length) ++ List.replicate (64 * sectorsF body.length - (sectorsF body.length + (24 + body.length))) 0 = putF kind gen seq body := by
 have hl := textF_length kind gen seq body
 obtain ⟨t, ht⟩ : ∃ t, textF kind gen seq body = t := ⟨_, rfl⟩
 unfold putF
 rw [ht] at hl ⊢
 obtain ⟨k, hk⟩ : ∃ k, sectorsF body.length = k + 1 := ⟨sectorsF body.length - 1, by unfold sectorsF; omega⟩
 have hk2 : k = (body.length + 86) / 63 - 1 := by rw [← show sectorsF body.length = (body.length + 86) / 63 from rfl]; omega
 rw [hk, ← rawTo_step t k (rawTo_full t k (by omega))]
 congr 2
 rw [List.length_take, List.length_drop]
 omega
theorem sixPutLong (nb cb : Nat) (pb : Option Addr) (kind gen seq : Int) (w : World) (h5 : 60000 < nb) :
  Calls Tryz.prog 68 #[.agg #[.int .i64 kind, .int .i64 gen, .int .i64 seq, .slice pb nb cb]] w fun e w' => e = .returned (.tuple #[.slice none 0 0, .int .i64 3]) ∧ Mod nil w w' := by
 go_enter Tryz.func68, Tryz.ntmps68
 go_wp2_with fail
 refine (sixTextLong nb cb pb kind gen seq _ h5).mono ?_
 rintro e w1 ⟨rfl, m⟩
 have M : Hid (Mod nil w w1) := Lib.hid (((Mod.refl _ _).alloc _).thenNil m)
 clear m
 go_wp2_with fail
 go_ret2
 exact ⟨rfl, M.out⟩
set_option maxRecDepth 100000 in
set_option maxHeartbeats 4000000 in
theorem sixPut (kind gen seq nb cb : Nat) (pb : Option Addr) (T : Nat → Prop) (body : List UInt8) (w : World) (hrow : IsRow T w (.slice pb nb cb) (bys body)) (hT : ∀ k, T k → k < w.heap.size)
  (h1 : kind ≤ 255) (h2 : gen ≤ 4294967295) (h3 : seq ≤ 4294967295) (h4 : nb ≤ 60000) :
  Calls Tryz.prog 68 #[.agg #[.int .i64 (kind : Nat), .int .i64 (gen : Nat), .int .i64 (seq : Nat), .slice pb nb cb]] w fun e w' => ∃ p q, e = .returned (.tuple #[.slice p (64 * sectorsF nb) q, .int .i64 0]) ∧ IsVec (fun k => w.heap.size ≤ k) w' 5 1 (.slice p (64 * sectorsF nb) q) (64 * sectorsF nb) (bys (putF kind gen seq body)) ∧ Mod nil w w' := by
 refine (?_ : ∀ Post : Ending → World → Prop, Hid (∀ e w', (∃ p q, e = .returned (.tuple #[.slice p (64 * sectorsF nb) q, .int .i64 0]) ∧ IsVec (fun k => w.heap.size ≤ k) w' 5 1 (.slice p (64 * sectorsF nb) q) (64 * sectorsF nb) (bys (putF kind gen seq body)) ∧ Mod nil w w') → Post e w') → Calls Tryz.prog 68 #[.agg #[.int .i64 (kind : Nat), .int .i64 (gen : Nat), .int .i64 (seq : Nat), .slice pb nb cb]] w Post) _ (Lib.hid (fun _ _ h => h))
 intro Post HPOST
 have hbl : body.length = nb := by
  obtain ⟨_, _, h, _⟩ := hrow
  simp only [Value.slice.injEq, bys_length] at h
  exact h.2.1.symm
 have HBL := Lib.hid hbl
 obtain ⟨K, hK⟩ : ∃ K, sectorsF nb = K := ⟨_, rfl⟩
 rw [hK] at HPOST
 have hK2 : K = (nb + 86) / 63 := hK.symm
 have HKB : 63 * K < 24 + nb + 63 ∧ 24 + nb ≤ 63 * K := by omega
 obtain ⟨TX, hTX⟩ : ∃ t, textF kind gen seq body = t := ⟨_, rfl⟩
 have HTXL : Hid (TX.length = 24 + nb) := Lib.hid (by rw [← hTX, textF_length, hbl])
 have HPUT : Hid (rawTo TX K ++ List.replicate (64 * K - (K + (24 + nb))) 0 = putF kind gen seq body) := Lib.hid (by rw [← hTX, ← rawTo_put, hbl, hK])
 have HTEXT : Hid (∀ W, Mod nil w W → Calls Tryz.prog 97 #[.agg #[.int .i64 (kind : Nat), .int .i64 (gen : Nat), .int .i64 (seq : Nat), .slice pb nb cb]] W fun e w' => ∃ g c, e = .returned (.tuple #[.slice (some ⟨g, 0, none⟩) (24 + nb) c, .int .i64 0]) ∧ 24 + nb ≤ c ∧ c ≤ maxLen ∧ IsVec (fun k => W.heap.size ≤ k) w' 5 1 (.slice (some ⟨g, 0, none⟩) (24 + nb) c) (24 + nb) (bys TX) ∧ Mod nil W w') := Lib.hid (fun W m => by
  refine (sixText kind gen seq nb cb pb T body W (hrow.modNil m) (fun k h => Nat.lt_of_lt_of_le (hT k h) m.size) h1 h2 h3 h4).mono ?_
  rintro e w' ⟨v, rfl, hv, hm⟩
  obtain ⟨p, c, rfl, hc1, hc2⟩ := vecCap hv
  rcases hv.1.2 with ⟨h, -⟩ | ⟨g, cap, cur, hv2, -⟩
  ·simp at h
  ·simp only [Value.slice.injEq] at hv2
   obtain ⟨rfl, -, rfl⟩ := hv2
   rw [hTX] at hv
   exact ⟨g, c, rfl, hc1, hc2, hv, hm⟩)
 clear hrow hT hbl hTX h1 h2 h3 hK hK2
 go_enter Tryz.func68, Tryz.ntmps68
 go_wp2_with fail
 refine (HTEXT.out _ ((Mod.refl _ _).alloc _)).mono ?_
 rintro e w1 ⟨g, c, rfl, hc1, hc2, hv1, hm1⟩
 have HV1 : Hid (IsVec (fun k => w.heap.size < k) w1 5 1 (.slice (some ⟨g, 0, none⟩) (24 + nb) c) (24 + nb) (bys TX)) := Lib.hid (hv1.mono (fun k _ h => by rw [World.size_alloc] at h; omega))
 have HM1 : Hid (Mod nil w w1) := Lib.hid (((Mod.refl _ _).alloc _).thenNil hm1)
 obtain ⟨L, hL⟩ : ∃ L, 24 + nb = L := ⟨_, rfl⟩
 rw [hL] at HV1 hc1 HKB HTXL HPUT
 have HLB : 24 ≤ L ∧ L ≤ 60024 := by omega
 have HL := Lib.hid hL
 obtain ⟨B, hB⟩ : ∃ B, w1.heap.size = B := ⟨_, rfl⟩
 have HB := Lib.hid hB
 have hgB : g < B := by rw [← hB]; exact (HV1.out.1.lt g rfl).2
 (try rw [hL])
 clear hv1 hm1 hL hB h4
 go_wp2_with fail
 go_loopw [6, 7] (fun v6 v7 wr => ∃ (j q m : Nat) (p : Option Addr) (cq : Nat), j ≤ K ∧ v7 = .int .i64 q ∧ v6 = .slice p m cq ∧ Hid (q = 63 * j) ∧ Hid (m = j + min (63 * j) L) ∧ Hid (IsVec (fun k => B ≤ k) wr 5 1 (.slice p m cq) m (bys (rawTo TX j))) ∧ Hid (Mod nil w1 wr)) (fun _ v _ => 63 * K - (intOf v).toNat)
 case atStart => exact ⟨0, 0, 0, none, 0, by omega, rfl, rfl, Lib.hid rfl, Lib.hid (by simp), Lib.hid (IsVec.nil _ _ _ _), Lib.hid (Mod.refl _ _)⟩
 case round =>
  obtain ⟨j, q, m, p, cq, hj, rfl, rfl, HQ, HMM, HV, HM⟩ := hrel
  have hq := HQ.out
  by_cases hlt : q < L
  ·have hmb : m ≤ 70000 := by have := HMM.out; omega
   obtain ⟨X, hX⟩ : ∃ X, min (q + 63) L = X := ⟨_, rfl⟩
   have hX2 : q ≤ X ∧ X ≤ L ∧ q < X ∧ X ≤ q + 63 := by omega
   obtain ⟨Y, hY⟩ : ∃ Y, X - q = Y := ⟨_, rfl⟩
   have hwr : IntKind.i64.wrap ((q : Int) + 63) = (q : Int) + 63 := by rw [IntKind.wrap_i64]; omega
   have hmin : (if (L : Int) < (q : Int) + 63 then (L : Int) else (q : Int) + 63) = (X : Int) := by split <;> omega
   have hmin2 : min ((q : Int) + 63) (L : Int) = (X : Int) := by omega
   have hXc : (X : Int) ≤ (c : Int) ∧ ¬ c = q ∧ q ≤ X := by omega
   obtain ⟨hXc, hcq, hqX⟩ := hXc
   have HX := Lib.hid hX
   have HY := Lib.hid hY
   have HX2 := Lib.hid hX2
   have HLT := Lib.hid hlt
   clear hq hX hX2
   have HYL : Hid (((TX.drop (63 * j)).take 63).length = Y) := Lib.hid (by rw [List.length_take, List.length_drop, HTXL.out]; have := HY.out; have := HX.out; have := HQ.out; omega)
   have HSUB : Hid (∀ W, Mod nil w1 W → IsRow (fun k => w.heap.size < k) W (.slice (some ⟨g, q, none⟩) Y (c - q)) (bys ((TX.drop (63 * j)).take 63))) := Lib.hid (fun W m => by
    have h := row_drop (rowFront (HV1.out.row.modNil m) X (by rw [bys_length, HTXL.out]; exact HX2.out.2.1)) q (by rw [List.length_take, bys_length, HTXL.out]; have := HX2.out; omega)
    rw [HY.out, Nat.zero_add, ← bysTake, ← bys_drop, List.drop_take, HY.out, List.take_eq_take_iff.2 (show min Y (TX.drop q).length = min 63 (TX.drop q).length by rw [List.length_drop, HTXL.out]; have := HY.out; have := HX.out; omega), HQ.out] at h
    rw [HQ.out]
    exact h)
   have HLN : Hid ((rawTo TX j).length = m) := Lib.hid (by rw [rawTo_length, HTXL.out, HMM.out])
   have HK1 : Hid (j + 1 ≤ K) := Lib.hid (by have := HQ.out; have := HLT.out; omega)
   have HMN : Hid (m + 1 + Y = j + 1 + min (63 * (j + 1)) L) := Lib.hid (by have := HQ.out; have := HMM.out; have := HX.out; have := HY.out; have := HLT.out; omega)
   have hYb : Y ≤ 63 := by have := HY.out; have := HX2.out; omega
   clear hlt
   by_cases hz : q = 0
   ·have hz1 : decide ((q : Int) = 0) = true := by simp [hz]
    have hz2 : ((q : Int) == 0) = true := by simp [hz]
    have HIF : Hid ((if j = 0 then (1 : UInt8) else 2) = 1) := Lib.hid (by have := HQ.out; rw [if_pos (by omega)])
    clear hz
    go_wp2_with fail
    refine wp_region_held_drew (S := (fun _ => True)) (by kernel_rfl) (trivial) (fun hHeld => ?_)
    refine sH 0 ?_
    refine sH 1 ?_
    refine sH 4 ?_
    refine sH 5 ?_
    refine sH 6 ?_
    refine sH 7 ?_
    refine sH 8 ?_
    refine sH 9 ?_
    refine sH 10 ?_
    refine sH 11 ?_
    refine rH 2 (fun K hK => ?_)
    go_simp
    obtain ⟨G3, hg3⟩ : ∃ b, wr.heap.size = b := ⟨_, rfl⟩
    (try rw [hg3])
    generalize hw3 : (World.alloc wr _).drew = w3
    have hm3 : Mod nil wr w3 := by rw [← hw3]; exact ((Mod.refl _ _).alloc _).drew
    have hr3 : IsRow (fun k => k = G3) w3 (.slice (some ⟨G3, 0, none⟩) 1 1) (bys [1]) := by
     refine ⟨_, _, rfl, fun i hi => ⟨G3, 0, rfl, rfl, ?_, ?_⟩⟩
     ·rw [← hw3]; show G3 < (World.alloc wr _).heap.size; rw [World.size_alloc, hg3]; omega
     ·rw [← hw3, ← hg3]
      have : i = 0 := by simp [bys] at hi; omega
      subst this
      exact cell_of (heap_alloc_new wr _) 0
    have hGB : B ≤ G3 := by have := HM.out.size; have := HB.out; omega
    have hs3 : G3 ≤ w3.heap.size := by rw [← hg3]; exact hm3.size
    obtain ⟨px, cx, wx, hrunx, hvx, hmx⟩ := six_append 40 (l := rawTo TX j) (m := [1]) (k := 1) HLN.out rfl (HV.out.modNil hm3) hr3 (by omega)
    have hm1x : Mod nil w1 wx := (HM.out.thenNil hm3).new hmx (fun k hk => by have := HB.out; omega)
    have hrq : IsRow (fun k => w.heap.size < k) wx (.slice (some ⟨g, q, none⟩) Y (c - q)) (bys ((TX.drop (63 * j)).take 63)) := HSUB.out wx hm1x
    obtain ⟨py, cy, wy, hruny, hvy, hmy⟩ := six_append 40 (l := rawTo TX j ++ [1]) (m := (TX.drop (63 * j)).take 63) (n := m + 1) (k := Y) (by rw [List.length_append, HLN.out]; rfl) HYL.out hvx hrq (by omega)
    have HVY : Hid (IsVec (fun k => B ≤ k) wy 5 1 (.slice py (m + 1 + Y) cy) (m + 1 + Y) (bys (rawTo TX (j + 1)))) := Lib.hid (by
     have h := hvy.mono (T := fun k => B ≤ k) (fun k hk h => by have := hmx.size; rcases h with (h | h) | h <;> omega)
     rw [rawTo, HIF.out]
     rw [List.append_assoc] at h
     exact h)
    have HMY : Hid (Mod nil w1 wy) := Lib.hid (hm1x.new hmy (fun k hk => by have := HB.out; rcases hk with h | h <;> omega))
    clear hw3 hm3 hr3 hvx hmx hm1x hrq hvy hmy hg3
    refine hK.out _ _ (trivial) (fun hHeld => ?_)
    clear hK K
    (try simp only [Act.put, pT])
    refine rH 3 (fun K hK => ?_)
    refine step_append_run rfl _ _ _ _ rfl rfl rfl hrunx ?_
    refine hK.out _ _ (trivial) (fun hHeld => ?_)
    clear hK K
    (try simp only [Act.put, pT])
    refine rH 12 (fun K hK => ?_)
    refine step_append_run rfl _ _ _ _ rfl rfl rfl hruny ?_
    refine hK.out _ _ (trivial) (fun hHeld => ?_)
    clear hK K
    (try simp only [Act.put, pT])
    refine sH 13 ?_
    refine wpAnyH_done (by kernel_rfl) ?_ _
    clear hrunx hruny
    go_wp2_with fail
    exact ⟨⟨j + 1, q + 63, m + 1 + Y, py, cy, HK1.out, by go_num, rfl, Lib.hid (by have := HQ.out; omega), HMN.out, HVY, HMY⟩, by simp [intOf]; have := HLT.out; have := HKB.1; omega⟩
   ·have hz1 : decide ((q : Int) = 0) = false := by simp [hz]
    have hz2 : ((q : Int) == 0) = false := by simp [hz]
    have HIF : Hid ((if j = 0 then (1 : UInt8) else 2) = 2) := Lib.hid (by have := HQ.out; rw [if_neg (by omega)])
    clear hz
    go_wp2_with fail
    refine wp_region_held_drew (S := (fun _ => True)) (by kernel_rfl) (trivial) (fun hHeld => ?_)
    refine sH 0 ?_
    refine sH 1 ?_
    refine sH 4 ?_
    refine sH 5 ?_
    refine sH 6 ?_
    refine sH 7 ?_
    refine sH 8 ?_
    refine sH 9 ?_
    refine sH 10 ?_
    refine sH 11 ?_
    refine rH 2 (fun K hK => ?_)
    go_simp
    obtain ⟨G3, hg3⟩ : ∃ b, wr.heap.size = b := ⟨_, rfl⟩
    (try rw [hg3])
    generalize hw3 : (World.alloc wr _).drew = w3
    have hm3 : Mod nil wr w3 := by rw [← hw3]; exact ((Mod.refl _ _).alloc _).drew
    have hr3 : IsRow (fun k => k = G3) w3 (.slice (some ⟨G3, 0, none⟩) 1 1) (bys [2]) := by
     refine ⟨_, _, rfl, fun i hi => ⟨G3, 0, rfl, rfl, ?_, ?_⟩⟩
     ·rw [← hw3]; show G3 < (World.alloc wr _).heap.size; rw [World.size_alloc, hg3]; omega
     ·rw [← hw3, ← hg3]
      have : i = 0 := by simp [bys] at hi; omega
      subst this
      exact cell_of (heap_alloc_new wr _) 0
    have hGB : B ≤ G3 := by have := HM.out.size; have := HB.out; omega
    have hs3 : G3 ≤ w3.heap.size := by rw [← hg3]; exact hm3.size
    obtain ⟨px, cx, wx, hrunx, hvx, hmx⟩ := six_append 40 (l := rawTo TX j) (m := [2]) (k := 1) HLN.out rfl (HV.out.modNil hm3) hr3 (by omega)
    have hm1x : Mod nil w1 wx := (HM.out.thenNil hm3).new hmx (fun k hk => by have := HB.out; omega)
    have hrq : IsRow (fun k => w.heap.size < k) wx (.slice (some ⟨g, q, none⟩) Y (c - q)) (bys ((TX.drop (63 * j)).take 63)) := HSUB.out wx hm1x
    obtain ⟨py, cy, wy, hruny, hvy, hmy⟩ := six_append 40 (l := rawTo TX j ++ [2]) (m := (TX.drop (63 * j)).take 63) (n := m + 1) (k := Y) (by rw [List.length_append, HLN.out]; rfl) HYL.out hvx hrq (by omega)
    have HVY : Hid (IsVec (fun k => B ≤ k) wy 5 1 (.slice py (m + 1 + Y) cy) (m + 1 + Y) (bys (rawTo TX (j + 1)))) := Lib.hid (by
     have h := hvy.mono (T := fun k => B ≤ k) (fun k hk h => by have := hmx.size; rcases h with (h | h) | h <;> omega)
     rw [rawTo, HIF.out]
     rw [List.append_assoc] at h
     exact h)
    have HMY : Hid (Mod nil w1 wy) := Lib.hid (hm1x.new hmy (fun k hk => by have := HB.out; rcases hk with h | h <;> omega))
    clear hw3 hm3 hr3 hvx hmx hm1x hrq hvy hmy hg3
    refine hK.out _ _ (trivial) (fun hHeld => ?_)
    clear hK K
    (try simp only [Act.put, pT])
    refine rH 3 (fun K hK => ?_)
    refine step_append_run rfl _ _ _ _ rfl rfl rfl hrunx ?_
    refine hK.out _ _ (trivial) (fun hHeld => ?_)
    clear hK K
    (try simp only [Act.put, pT])
    refine rH 12 (fun K hK => ?_)
    refine step_append_run rfl _ _ _ _ rfl rfl rfl hruny ?_
    refine hK.out _ _ (trivial) (fun hHeld => ?_)
    clear hK K
    (try simp only [Act.put, pT])
    refine sH 13 ?_
    refine wpAnyH_done (by kernel_rfl) ?_ _
    clear hrunx hruny
    go_wp2_with fail
    exact ⟨⟨j + 1, q + 63, m + 1 + Y, py, cy, HK1.out, by go_num, rfl, Lib.hid (by have := HQ.out; omega), HMN.out, HVY, HMY⟩, by simp [intOf]; have := HLT.out; have := HKB.1; omega⟩
  ·obtain rfl : K = j := by omega
   have HM2 : Hid (m = K + L) := Lib.hid (by have := HMM.out; omega)
   have HV2 : Hid (IsVec (fun k => B ≤ k) wr 5 1 (.slice p m cq) m (bys (rawTo TX K ++ List.replicate 0 0))) := Lib.hid (by simpa using HV.out)
   have HR : Hid ((rawTo TX K).length = K + L) := Lib.hid (by rw [rawTo_length, HTXL.out]; omega)
   have HM' := HM
   obtain ⟨wq, rfl⟩ : ∃ wq, wq = wr := ⟨_, rfl⟩
   clear HV HM hq
   go_wp2_with fail
   go_loopw [6] (fun v6 wr => ∃ (z m : Nat) (p : Option Addr) (cq : Nat), v6 = .slice p m cq ∧ Hid (m = K + L + z ∧ m ≤ 64 * K) ∧ Hid (IsVec (fun k => B ≤ k) wr 5 1 (.slice p m cq) m (bys (rawTo TX K ++ List.replicate z 0))) ∧ Hid (Mod nil w1 wr)) (fun v _ => 64 * K - vlen v)
   case atStart => exact ⟨0, m, p, cq, rfl, Lib.hid ⟨by have := HM2.out; omega, by have := HM2.out; omega⟩, HV2, HM'⟩
   case round =>
    clear HM2 HV2 HM'
    obtain ⟨z, m, p, cq, rfl, HMM2, HV, HM⟩ := hrel
    have hmK := HMM2.out
    by_cases he : m = 64 * K
    ·have hd : ((m : Int) % 64 != 0) = false := by simp; omega
     have HF : Hid (IsVec (fun k => w.heap.size ≤ k) wr 5 1 (.slice p m cq) m (bys (putF kind gen seq body)) ∧ Mod nil w wr) := Lib.hid (by
      refine ⟨?_, HM1.out.thenNil HM.out⟩
      have hz : z = 64 * K - (K + L) := by omega
      have h := HV.out
      rw [hz, HPUT.out] at h
      exact h.mono (fun k hk h => by have := HB.out; have := HM1.out.size; omega))
     have HE := Lib.hid he
     clear HV HM he hmK
     go_wp2_with fail
     obtain ⟨f1, f2⟩ := HF.out
     rw [HE.out] at f1 ⊢
     exact HPOST.out _ _ ⟨_, _, rfl, f1, f2⟩
    ·have hd : ((m : Int) % 64 != 0) = true := by simp; omega
     obtain ⟨w3, hw3⟩ : ∃ W, World.alloc wr (.cells #[.int .u8 0] 5) = W := ⟨_, rfl⟩
     obtain ⟨G3, hg3⟩ : ∃ b, wr.heap.size = b := ⟨_, rfl⟩
     have hm3 : Mod nil wr w3 := by rw [← hw3]; exact (Mod.refl _ _).alloc _
     have hr3 : IsRow (fun k => k = G3) w3 (.slice (some ⟨G3, 0, none⟩) 1 1) (bys [0]) := by
      refine ⟨_, _, rfl, fun i hi => ⟨G3, 0, rfl, rfl, ?_, ?_⟩⟩
      ·rw [← hw3, World.size_alloc, hg3]; omega
      ·rw [← hw3, ← hg3]
       have : i = 0 := by simp [bys] at hi; omega
       subst this
       exact cell_of (heap_alloc_new wr _) 0
     have hGB : B ≤ G3 := by have := HM.out.size; have := HB.out; omega
     have hs3 : G3 ≤ w3.heap.size := by rw [← hg3]; exact hm3.size
     obtain ⟨px, cx, wx, hrunx, hvx, hmx⟩ := six_append 40 (l := rawTo TX K ++ List.replicate z 0) (m := [0]) (n := m) (k := 1) (by rw [List.length_append, HR.out, List.length_replicate]; exact hmK.1.symm) rfl (HV.out.modNil hm3) hr3 (by omega)
     have HVX : Hid (IsVec (fun k => B ≤ k) wx 5 1 (.slice px (m + 1) cx) (m + 1) (bys (rawTo TX K ++ List.replicate (z + 1) 0))) := Lib.hid (by
      rw [List.replicate_succ', ← List.append_assoc]
      exact hvx.mono (fun k hk h => by omega))
     have HMX : Hid (Mod nil w1 wx) := Lib.hid ((HM.out.thenNil hm3).new hmx (fun k hk => by have := HB.out; omega))
     have HN : Hid (m + 1 = K + L + (z + 1) ∧ m + 1 ≤ 64 * K ∧ m < 64 * K) := Lib.hid (by omega)
     rw [← hg3, ← hw3] at hrunx
     have HRUN := Lib.hid hrunx
     clear hw3 hm3 hr3 hvx hmx HV HM hrunx he hmK hGB hs3 hg3
     go_wp2_with (first | (at_builtin; refine wpList_append_run rfl _ _ _ _ rfl rfl rfl HRUN.out ?_))
     exact ⟨⟨z + 1, m + 1, px, cx, rfl, Lib.hid ⟨HN.out.1, HN.out.2.1⟩, HVX, HMX⟩, by simp only [vlen]; have := HN.out; omega⟩
end Go.Proofs.YtdfahddpkkeldaaGreat

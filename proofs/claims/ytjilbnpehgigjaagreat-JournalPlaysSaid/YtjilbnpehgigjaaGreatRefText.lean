/- cflref6: Text. (Printed by wip/tools/gen_reftext.py.) -/
import Derived.Test.YtjilbnpehgigjaaGreatShort
import Derived.Test.YtjilbnpehgigjaaGreatRefEnc
import Derived.Test.YtjilbnpehgigjaaGreatRefDec
import Derived.Test.YtjilbnpehgigjaaGreatRefShaD
import Derived.Lib.SlBytesConst
import Derived.Test.YtjilbnpehgigjaaGreatRefLists
namespace Go.Proofs.YtjilbnpehgigjaaGreat
open Go.RowKit
theorem refFitsNo1 (n : Int) (w : World) (h : n < 0 ∨ 255 < n) : Calls Tryz.prog 60 #[.int .i64 n, .int .i64 1] w fun e w' => e = .returned (.bool false) ∧ w' = w := by
  rcases (show n < 0 ∨ (255 < n ∧ n ≤ 4611686018427387904) ∨ (0 ≤ n ∧ 4611686018427387904 < n) by omega) with h1 | h1 | h1
  all_goals
    go_enter Tryz.func60, Tryz.ntmps60
    go_wp2_with fail
    go_ret
    exact ⟨by simp <;> omega, rfl⟩
theorem refFitsNo4 (n : Int) (w : World) (h : n < 0 ∨ 4294967295 < n) : Calls Tryz.prog 60 #[.int .i64 n, .int .i64 4] w fun e w' => e = .returned (.bool false) ∧ w' = w := by
  rcases (show n < 0 ∨ (4294967295 < n ∧ n ≤ 4611686018427387904) ∨ (0 ≤ n ∧ 4611686018427387904 < n) by omega) with h1 | h1 | h1
  all_goals
    go_enter Tryz.func60, Tryz.ntmps60
    go_wp2_with fail
    go_ret
    exact ⟨by simp <;> omega, rfl⟩
theorem sixTextLong (nb cb : Nat) (pb : Option Addr) (kind gen seq : Int) (w : World) (h4 : 60000 < nb) :
    Calls Tryz.prog 37 #[.agg #[.int .i64 kind, .int .i64 gen, .int .i64 seq, .slice pb nb cb]] w fun e w' => e = .returned (.tuple #[.slice none 0 0, .int .i64 3]) ∧ Mod nil w w' := by
  have h5 : (60000 : Int) < (nb : Int) := by omega
  go_enter Tryz.func37, Tryz.ntmps37
  go_wp2_with fail
  go_ret2
  exact ⟨rfl, (Mod.refl _ _).alloc _⟩
theorem sixTextBad1 (nb cb : Nat) (pb : Option Addr) (kind gen seq : Int) (w : World) (h4 : nb ≤ 60000) (h : kind < 0 ∨ 255 < kind) :
    Calls Tryz.prog 37 #[.agg #[.int .i64 kind, .int .i64 gen, .int .i64 seq, .slice pb nb cb]] w fun e w' => e = .returned (.tuple #[.slice none 0 0, .int .i64 1]) ∧ Mod nil w w' := by
  have h5 : ¬ (60000 : Int) < (nb : Int) := by omega
  go_enter Tryz.func37, Tryz.ntmps37
  go_wp2_with fail
  refine (refFitsNo1 _ _ (by omega)).mono ?_
  rintro e w1 ⟨rfl, rfl⟩
  go_wp2_with fail
  go_ret2
  exact ⟨rfl, (Mod.refl _ _).alloc _⟩
theorem sixTextBad2 (nb cb : Nat) (pb : Option Addr) (kind gen seq : Int) (w : World) (h4 : nb ≤ 60000) (h1 : 0 ≤ kind) (h2 : kind ≤ 255) (h : gen < 0 ∨ 4294967295 < gen) :
    Calls Tryz.prog 37 #[.agg #[.int .i64 kind, .int .i64 gen, .int .i64 seq, .slice pb nb cb]] w fun e w' => e = .returned (.tuple #[.slice none 0 0, .int .i64 1]) ∧ Mod nil w w' := by
  have h5 : ¬ (60000 : Int) < (nb : Int) := by omega
  go_enter Tryz.func37, Tryz.ntmps37
  go_wp2_with fail
  refine (refFits1 _ _ (by omega) (by omega)).mono ?_
  rintro e w1 ⟨rfl, rfl⟩
  go_wp2_with fail
  refine (refFitsNo4 _ _ (by omega)).mono ?_
  rintro e w1 ⟨rfl, rfl⟩
  go_wp2_with fail
  go_ret2
  exact ⟨rfl, (Mod.refl _ _).alloc _⟩
theorem sixTextBad3 (nb cb : Nat) (pb : Option Addr) (kind gen seq : Int) (w : World) (h4 : nb ≤ 60000) (h1 : 0 ≤ kind) (h2 : kind ≤ 255) (h1 : 0 ≤ gen) (h2 : gen ≤ 4294967295) (h : seq < 0 ∨ 4294967295 < seq) :
    Calls Tryz.prog 37 #[.agg #[.int .i64 kind, .int .i64 gen, .int .i64 seq, .slice pb nb cb]] w fun e w' => e = .returned (.tuple #[.slice none 0 0, .int .i64 1]) ∧ Mod nil w w' := by
  have h5 : ¬ (60000 : Int) < (nb : Int) := by omega
  go_enter Tryz.func37, Tryz.ntmps37
  go_wp2_with fail
  refine (refFits1 _ _ (by omega) (by omega)).mono ?_
  rintro e w1 ⟨rfl, rfl⟩
  go_wp2_with fail
  refine (refFits4 _ _ (by omega) (by omega)).mono ?_
  rintro e w1 ⟨rfl, rfl⟩
  go_wp2_with fail
  refine (refFitsNo4 _ _ (by omega)).mono ?_
  rintro e w1 ⟨rfl, rfl⟩
  go_wp2_with fail
  go_ret2
  exact ⟨rfl, (Mod.refl _ _).alloc _⟩

theorem sixTextBad (nb cb : Nat) (pb : Option Addr) (kind gen seq : Int) (w : World) (h4 : nb ≤ 60000) (h : ¬ (0 ≤ kind ∧ kind ≤ 255) ∨ ¬ (0 ≤ gen ∧ gen ≤ 4294967295) ∨ ¬ (0 ≤ seq ∧ seq ≤ 4294967295)) :
    Calls Tryz.prog 37 #[.agg #[.int .i64 kind, .int .i64 gen, .int .i64 seq, .slice pb nb cb]] w fun e w' => e = .returned (.tuple #[.slice none 0 0, .int .i64 1]) ∧ Mod nil w w' := by
  by_cases k1 : 0 ≤ kind ∧ kind ≤ 255
  · by_cases k2 : 0 ≤ gen ∧ gen ≤ 4294967295
    · exact sixTextBad3 nb cb pb kind gen seq w h4 k1.1 k1.2 k2.1 k2.2 (by omega)
    · exact sixTextBad2 nb cb pb kind gen seq w h4 k1.1 k1.2 (by omega)
  · exact sixTextBad1 nb cb pb kind gen seq w h4 (by omega)
/-- append to a byte slice of the program's own, by the lengths -/
theorem six_append {S T : Nat → Prop} {w : World} (ty : TypeId) {v x : Value} {l m : List UInt8} {n k : Nat} (hn : l.length = n) (hk : m.length = k) (hv : IsVec S w 5 1 v n (bys l)) (hx : IsRow T w x (bys m)) (hb : n + k ≤ 140737488355328) :
    ∃ p c w', (Builtin.append_ #[22, 22] ty #[v, x]).run Tryz.prog w = .ok (.slice p (n + k) c) w' ∧ IsVec (fun j => S j ∨ w.heap.size ≤ j) w' 5 1 (.slice p (n + k) c) (n + k) (bys (l ++ m)) ∧ Mod S w w' := by
  subst hn; subst hk
  obtain ⟨v', w', h1, h2, h3⟩ := bytes_append (l := l) (m := m) ty hv hx hb
  rw [List.length_append] at h2
  obtain ⟨p, c, rfl⟩ := h2.form
  exact ⟨p, c, w', h1, h2, h3⟩
theorem row_two {w : World} (a b : UInt8) (g : Nat) (hg : w.heap.size = g) : IsRow (· = g) (w.alloc (.cells #[.int .u8 a.toNat, .int .u8 b.toNat] 5)) (.slice (some ⟨g, 0, none⟩) 2 2) (bys [a, b]) := by
  subst hg
  have h : (w.alloc (.cells #[.int .u8 a.toNat, .int .u8 b.toNat] 5)).heap[w.heap.size]? = some (.cells (bys [a, b]).toArray 5 (0, 0)) := heap_alloc_new w _
  exact IsRow.ofBlock (S := (· = w.heap.size)) h rfl 2 2 rfl
set_option maxRecDepth 100000 in
set_option maxHeartbeats 4000000 in
theorem sixText (kind gen seq nb cb : Nat) (pb : Option Addr) (T : Nat → Prop) (body : List UInt8) (w : World) (hrow : IsRow T w (.slice pb nb cb) (bys body)) (hT : ∀ k, T k → k < w.heap.size)
    (h1 : kind ≤ 255) (h2 : gen ≤ 4294967295) (h3 : seq ≤ 4294967295) (h4 : nb ≤ 60000) :
    Calls Tryz.prog 37 #[.agg #[.int .i64 (kind : Nat), .int .i64 (gen : Nat), .int .i64 (seq : Nat), .slice pb nb cb]] w fun e w' => ∃ v, e = .returned (.tuple #[v, .int .i64 0]) ∧ IsVec (fun k => w.heap.size ≤ k) w' 5 1 v (24 + nb) (bys (textF kind gen seq body)) ∧ Mod nil w w' := by
  refine (?_ : ∀ Post : Ending → World → Prop, Hid (∀ e w', (∃ v, e = .returned (.tuple #[v, .int .i64 0]) ∧ IsVec (fun k => w.heap.size ≤ k) w' 5 1 v (24 + nb) (bys (textF kind gen seq body)) ∧ Mod nil w w') → Post e w') → Calls Tryz.prog 37 #[.agg #[.int .i64 (kind : Nat), .int .i64 (gen : Nat), .int .i64 (seq : Nat), .slice pb nb cb]] w Post) _ (Lib.hid (fun _ _ h => h))
  intro Post HPOST
  have hbl : body.length = nb := by
    obtain ⟨_, _, h, _⟩ := hrow
    simp only [Value.slice.injEq, bys_length] at h
    exact h.2.1.symm
  have HBL := Lib.hid hbl
  have HROW := Lib.hid hrow
  have HTT := Lib.hid hT
  have h5 : ¬ (60000 : Int) < (nb : Int) := by omega
  clear hrow hT hbl
  go_enter Tryz.func37, Tryz.ntmps37
  go_wp2_with fail
  obtain ⟨G, hG⟩ : ∃ G, w.heap.size = G := ⟨_, rfl⟩
  rw [hG]
  generalize hw1 : World.alloc w _ = w1
  have hx1 : w1.heap[G]? = some (.cells #[.int .i64 (kind : Nat), .int .i64 (gen : Nat), .int .i64 (seq : Nat), .slice pb nb cb] 37 (0, 0)) := by rw [← hw1, ← hG]; exact heap_alloc_new _ _
  have hm1 : Mod nil w w1 := by rw [← hw1]; exact (Mod.refl _ _).alloc _
  have hs1 : w1.heap.size = G + 1 := by rw [← hw1, ← hG]; simp
  have HG := Lib.hid hG
  have HKEEP : Hid (∀ W, Mod (fun k => G < k) w1 W → W.cell? ⟨G, 0, none⟩ = some (.int .i64 (kind : Nat)) ∧ W.cell? ⟨G, 1, none⟩ = some (.int .i64 (gen : Nat)) ∧ W.cell? ⟨G, 2, none⟩ = some (.int .i64 (seq : Nat)) ∧ W.cell? ⟨G, 3, none⟩ = some (.slice pb nb cb)) := Lib.hid (fun W m => by
    have hx := (m.block G (heap_lt hx1) (by omega)).trans hx1
    exact ⟨cell_of hx 0, cell_of hx 1, cell_of hx 2, cell_of hx 3⟩)
  have HM1 := Lib.hid hm1
  have HROW1 := Lib.hid (HROW.out.modNil hm1)
  obtain ⟨a0, a1, a2, a3⟩ := HKEEP.out w1 (Mod.refl _ _)
  have HS1 := Lib.hid hs1
  clear hw1 hx1 hm1 hs1 hG
  refine (refFits1 (kind : Nat) w1 (by omega) (by omega)).mono ?_
  rintro e w1 ⟨rfl, rfl⟩
  go_wp2_with fail
  refine (refFits4 (gen : Nat) w1 (by omega) (by omega)).mono ?_
  rintro e w1 ⟨rfl, rfl⟩
  go_wp2_with fail
  refine (refFits4 (seq : Nat) w1 (by omega) (by omega)).mono ?_
  rintro e w1 ⟨rfl, rfl⟩
  go_upto_region 6 with (fail)
  obtain ⟨b, hb⟩ : ∃ b, w1.heap.size = b := ⟨_, rfl⟩
  (try rw [hb])
  generalize hw2 : World.alloc w1 _ = w2
  have hb2 : w2.heap[b]? = some (.cells #[.slice none 0 0, .int .i64 0] 109 (0, 0)) := by rw [← hw2, ← hb]; exact heap_alloc_new _ _
  have hm2 : Mod nil w1 w2 := by rw [← hw2]; exact (Mod.refl _ _).alloc _
  have hbG : b = G + 1 := by rw [← hb]; exact HS1.out
  have hs2 : w2.heap.size = G + 2 := by rw [← hw2, World.size_alloc, HS1.out]
  have HE : Hid (IsREnc (fun k => G < k) w2 b []) := Lib.hid ⟨by omega, none, 0, hb2, IsVec.nil _ _ _ _⟩
  have M : Hid (Mod (fun k => G < k) w1 w2) := Lib.hid hm2.ofNil
  have HBG : Hid (b = G + 1) := Lib.hid hbG
  have HS2 := Lib.hid hs2
  clear a0 a1 a2 a3
  obtain ⟨a0, a1, a2, a3⟩ := HKEEP.out w2 M.out
  clear hw2 hb2 hm2 hb hbG hs2
  have kc := Lib.run_convert_bytes_const (P := Tryz.prog) w2 22 5 #[.int .u8 99, .int .u8 102] 2 2 Tryz.underlying22 Tryz.underlying5
  go_wp2_with fail
  obtain ⟨g3, hg3⟩ : ∃ b, w2.heap.size = b := ⟨_, rfl⟩
  (try rw [hg3])
  generalize hw3 : World.alloc w2 _ = w3
  have hm3 : Mod nil w2 w3 := by rw [← hw3]; exact (Mod.refl _ _).alloc _
  have hr3 : IsRow (fun k => k = g3) w3 (.slice (some ⟨g3, 0, none⟩) 2 2) (bys [99, 102]) := by
    refine ⟨_, _, rfl, fun i hi => ⟨g3, 0, rfl, rfl, ?_, ?_⟩⟩
    · rw [← hw3, World.size_alloc]; omega
    · rw [← hw3, ← hg3, World.cell?_alloc_mark]
      have : i = 0 ∨ i = 1 := by simp [bys] at hi; omega
      rcases this with rfl | rfl <;> rfl
  have HE3 : Hid (IsREnc (fun k => G < k) w3 b []) := Lib.hid (HE.out.modNil hm3)
  have M3 : Hid (Mod (fun k => G < k) w1 w3) := Lib.hid (M.out.thenNil hm3)
  clear HE M a0 a1 a2 a3 kc
  have M := M3
  obtain ⟨a0, a1, a2, a3⟩ := HKEEP.out w3 M.out
  refine (refRaw (fun k => G < k) (fun k => k = g3) b [] [99, 102] _ w3 HE3.out (fun k hk => by have := M.out.size; have := HS1.out; omega) hr3 (by simp)).mono ?_
  rintro e w4 ⟨rfl, he2, m2⟩
  have HE := Lib.hid he2
  have M2 := Lib.hid (M.out.trans m2 (fun _ _ h => h))
  clear HE3 M he2 m2 M3 hw3 hm3 hr3 a0 a1 a2 a3 hg3
  have M := M2
  clear M2
  obtain ⟨a0, a1, a2, a3⟩ := HKEEP.out w4 M.out
  go_wp2_with fail
  refine (refNumS (fun k => G < k) b _ (kind : Nat) 1 1 w4 HE.out (fun k hk => by have := M.out.size; have := HS1.out; omega) rfl (by omega) (by omega) (by omega) (by simp; omega) (by simp only [List.length_append, nb_length]; simp)).mono ?_
  rintro e w5 ⟨rfl, he2, m2⟩
  have HE2 := Lib.hid he2
  have M2 := Lib.hid (M.out.trans m2 (fun _ _ h => h))
  clear HE M he2 m2
  have HE := HE2
  have M := M2
  clear HE2 M2 a0 a1 a2 a3
  obtain ⟨a0, a1, a2, a3⟩ := HKEEP.out w5 M.out
  go_wp2_with fail
  refine (refNumS (fun k => G < k) b _ 0 1 1 w5 HE.out (fun k hk => by have := M.out.size; have := HS1.out; omega) rfl (by omega) (by omega) (by omega) (by simp) (by simp only [List.length_append, nb_length]; simp)).mono ?_
  rintro e w6 ⟨rfl, he2, m2⟩
  have HE2 := Lib.hid he2
  have M2 := Lib.hid (M.out.trans m2 (fun _ _ h => h))
  clear HE M he2 m2
  have HE := HE2
  have M := M2
  clear HE2 M2 a0 a1 a2 a3
  obtain ⟨a0, a1, a2, a3⟩ := HKEEP.out w6 M.out
  go_wp2_with fail
  refine (refNumS (fun k => G < k) b _ (gen : Nat) 4 4 w6 HE.out (fun k hk => by have := M.out.size; have := HS1.out; omega) rfl (by omega) (by omega) (by omega) (by simp; omega) (by simp only [List.length_append, nb_length]; simp)).mono ?_
  rintro e w7 ⟨rfl, he2, m2⟩
  have HE2 := Lib.hid he2
  have M2 := Lib.hid (M.out.trans m2 (fun _ _ h => h))
  clear HE M he2 m2
  have HE := HE2
  have M := M2
  clear HE2 M2 a0 a1 a2 a3
  obtain ⟨a0, a1, a2, a3⟩ := HKEEP.out w7 M.out
  go_wp2_with fail
  refine (refNumS (fun k => G < k) b _ (seq : Nat) 4 4 w7 HE.out (fun k hk => by have := M.out.size; have := HS1.out; omega) rfl (by omega) (by omega) (by omega) (by simp; omega) (by simp only [List.length_append, nb_length]; simp)).mono ?_
  rintro e w8 ⟨rfl, he2, m2⟩
  have HE2 := Lib.hid he2
  have M2 := Lib.hid (M.out.trans m2 (fun _ _ h => h))
  clear HE M he2 m2
  have HE := HE2
  have M := M2
  clear HE2 M2 a0 a1 a2 a3
  obtain ⟨a0, a1, a2, a3⟩ := HKEEP.out w8 M.out
  go_wp2_with fail
  refine (refNumS (fun k => G < k) b _ (nb : Nat) 4 4 w8 HE.out (fun k hk => by have := M.out.size; have := HS1.out; omega) rfl (by omega) (by omega) (by omega) (by simp; omega) (by simp only [List.length_append, nb_length]; simp)).mono ?_
  rintro e w9 ⟨rfl, he2, m2⟩
  have HE2 := Lib.hid he2
  have M2 := Lib.hid (M.out.trans m2 (fun _ _ h => h))
  clear HE M he2 m2
  have HE := HE2
  have M := M2
  clear HE2 M2 a0 a1 a2 a3
  obtain ⟨a0, a1, a2, a3⟩ := HKEEP.out w9 M.out
  go_wp2_with fail
  have hST : [] ++ [99, 102] ++ Go.Proofs.YtjilbnpehgigjaaGreat.nb (kind : Nat) 1 ++ Go.Proofs.YtjilbnpehgigjaaGreat.nb 0 1 ++ Go.Proofs.YtjilbnpehgigjaaGreat.nb (gen : Nat) 4 ++ Go.Proofs.YtjilbnpehgigjaaGreat.nb (seq : Nat) 4 ++ Go.Proofs.YtjilbnpehgigjaaGreat.nb (nb : Nat) 4 = startsF kind gen seq nb := rfl
  rw [hST] at HE
  obtain ⟨ST, hST2⟩ : ∃ ST, startsF kind gen seq nb = ST := ⟨_, rfl⟩
  have hsl : ST.length = 16 := by rw [← hST2]; exact startsF_length _ _ _ _
  rw [hST2] at HE
  have HST := Lib.hid hST2
  have HSL := Lib.hid hsl
  obtain ⟨p8, q8, hb9, hv9⟩ := HE.out.ex
  rw [hsl] at hb9 hv9
  have HROW9 : Hid (IsRow T w9 (.slice pb nb cb) (bys body)) := Lib.hid (HROW1.out.mod M.out (fun k _ h e => by have := HTT.out k h; have := HG.out; omega))
  have HK : Hid (∀ W, Mod nil w9 W → W.cell? ⟨b, 0, none⟩ = some (.slice p8 16 q8) ∧ W.cell? ⟨G, 3, none⟩ = some (.slice pb nb cb)) := Lib.hid (fun W m => ⟨cell_of (m.keep hb9) 0, (HKEEP.out W (M.out.thenNil m)).2.2.2⟩)
  have HCB : Hid (∀ W, Mod nil w9 W → Calls Tryz.prog 45 #[.slice p8 16 q8] W fun e w' => ∃ v', e = .returned v' ∧ IsVec (fun k => W.heap.size ≤ k) w' 5 1 v' 16 (bys ST) ∧ Mod nil W w') := Lib.hid (fun W m => by
    have h := refCopyBytes (fun k => G < k ∧ k ≠ b) (.slice p8 16 q8) ST W (hv9.modNil m).row (by omega)
    rw [hsl] at h
    exact h)
  have HHASH : Hid (∀ (T2 : Nat → Prop) (v : Value) (W : World), IsRow T2 W v (bys (ST ++ body)) → Mod nil w9 W → Calls Tryz.prog 63 #[v] W fun e w' => ∃ p c, e = .returned (.slice p 32 c) ∧ IsVec (fun k => W.heap.size ≤ k) w' 5 1 (.slice p 32 c) 32 (bys (shaOf (ST ++ body))) ∧ Mod nil W w') := Lib.hid (fun T2 v W h _ => by
    refine (refHash T2 v (ST ++ body) W h (by rw [List.length_append, hsl, HBL.out]; omega)).mono ?_
    rintro e w' ⟨v', rfl, hv, hm⟩
    obtain ⟨p, c, rfl⟩ := hv.form
    exact ⟨p, c, rfl, hv, hm⟩)
  have HV9 := Lib.hid hv9
  have HB9 := Lib.hid hb9
  have hm90 : Mod nil w9 w9 := Mod.refl _ _
  clear a0 a1 a2 a3 hb9 hv9 hST hST2 hsl
  refine wp_region_held_drew (S := (fun w' => w'.cell? ⟨b, 0, none⟩ = some (.slice p8 16 q8) ∧ w'.cell? ⟨G, 3, none⟩ = some (.slice pb nb cb))) (by kernel_rfl) (HK.out _ (by (repeat (first | assumption | exact Mod.refl _ _ | refine Mod.drew ?_ | refine Mod.alloc ?_ _)))) (fun hHeld => ?_)
  refine tH 0 ?_
  (try simp only [Act.put, pT])
  refine tH 1 ?_
  (try simp only [Act.put, pT])
  refine tH 2 ?_
  (try simp only [Act.put, pT])
  refine tH 3 ?_
  (try simp only [Act.put, pT])
  refine tH 5 ?_
  (try simp only [Act.put, pT])
  refine tH 6 ?_
  (try simp only [Act.put, pT])
  refine wpAnyH_ready (rs := [4]) (by kernel_rfl) (by simp) ?_
  refine AllReadyH.cons (i := 4) rfl (fun K hK => ?_) AllReadyH.nil
  (try dsimp (config := { proj := false }) only [g0, g1, g2])
  go_simp
  refine (HCB.out _ ?_).mono ?_
  · (repeat (first | assumption | exact Mod.refl _ _ | refine Mod.drew ?_ | refine Mod.alloc ?_ _))
  rintro e wa ⟨va, rfl, hva, hma⟩
  have hma' : Mod nil w9 wa := (show Mod nil w9 _ from by (repeat (first | assumption | exact Mod.refl _ _ | refine Mod.drew ?_ | refine Mod.alloc ?_ _))).thenNil hma
  obtain ⟨px, cx, wx, hrunx, hvx, hmx⟩ := six_append 22 HSL.out HBL.out hva (HROW9.out.modNil hma') (by omega)
  have hmx' : Mod nil w9 wx := hma'.new hmx (fun k hk => hk)
  refine hK.out _ _ (HK.out _ (by (repeat (first | assumption | exact Mod.refl _ _ | refine Mod.drew ?_ | refine Mod.alloc ?_ _)))) (fun hHeld => ?_)
  clear hK K
  (try simp only [Act.put, pT])
  refine wpAnyH_ready (rs := [7]) (by kernel_rfl) (by simp) ?_
  refine AllReadyH.cons (i := 7) rfl (fun K hK => ?_) AllReadyH.nil
  (try dsimp (config := { proj := false }) only [g0, g1, g2])
  refine step_append_run rfl _ _ _ _ rfl rfl rfl hrunx ?_
  refine hK.out _ _ (HK.out _ (by (repeat (first | assumption | exact Mod.refl _ _ | refine Mod.drew ?_ | refine Mod.alloc ?_ _)))) (fun hHeld => ?_)
  clear hK K
  (try simp only [Act.put, pT])
  refine wpAnyH_ready (rs := [8]) (by kernel_rfl) (by simp) ?_
  refine AllReadyH.cons (i := 8) rfl (fun K hK => ?_) AllReadyH.nil
  (try dsimp (config := { proj := false }) only [g0, g1, g2])
  go_simp
  refine (HHASH.out _ _ _ (hvx.modNil (Mod.refl _ _)).row ?_).mono ?_
  · (repeat (first | assumption | exact Mod.refl _ _ | refine Mod.drew ?_ | refine Mod.alloc ?_ _))
  rintro e wy ⟨py, cy, rfl, hvy, hmy⟩
  have hmy' : Mod nil w9 wy := (show Mod nil w9 _ from by (repeat (first | assumption | exact Mod.refl _ _ | refine Mod.drew ?_ | refine Mod.alloc ?_ _))).thenNil hmy
  have HVY := Lib.hid hvy
  have HMY := Lib.hid hmy'
  refine hK.out _ _ (HK.out _ (by (repeat (first | assumption | exact Mod.refl _ _ | refine Mod.drew ?_ | refine Mod.alloc ?_ _)))) (fun hHeld => ?_)
  clear hK K
  (try simp only [Act.put, pT])
  refine tH 9 ?_
  (try simp only [Act.put, pT])
  refine wpAnyH_done (by kernel_rfl) ?_ _
  clear hHeld
  have HE2 := Lib.hid (HE.out.modNil HMY.out)
  have M2 := Lib.hid (M.out.thenNil HMY.out)
  clear HE M HVY HMY
  have HE := HE2
  have M := M2
  obtain ⟨a0, a1, a2, a3⟩ := HKEEP.out wy M.out
  obtain ⟨py, cy, hfy, hc6, hcm6⟩ := vecCap hvy
  simp only [Value.slice.injEq, true_and] at hfy
  obtain ⟨rfl, rfl⟩ := hfy
  have hrow6 : IsRow (fun k => wx.heap.size ≤ k) wy (.slice py 8 cy) (bys ((shaOf (ST ++ body)).take 8)) := by
    rw [bysTake]
    exact rowFront hvy.row 8 (by rw [bys_length, shaOf_length]; omega)
  have HR6 := Lib.hid hrow6
  have HT8 : Hid (((shaOf (ST ++ body)).take 8).length = 8) := Lib.hid (by rw [List.length_take, shaOf_length]; rfl)
  clear hrow6 hvy
  go_wp2_with fail
  refine (refRaw (fun k => G < k) _ b ST _ _ wy HE.out (fun k hk => by have := M.out.size; have := HS1.out; omega) HR6.out (by rw [HT8.out, HSL.out]; simp)).mono ?_
  rintro e wz ⟨rfl, he2, m2⟩
  have HE2 := Lib.hid he2
  have M2 := Lib.hid (M.out.trans m2 (fun _ _ h => h))
  clear HE M he2 m2 a0 a1 a2 a3
  have HE := HE2
  have M := M2
  clear HE2 M2
  obtain ⟨a0, a1, a2, a3⟩ := HKEEP.out wz M.out
  go_wp2_with fail
  refine (refRaw (fun k => G < k) T b _ body _ wz HE.out (fun k hk => by have := M.out.size; have := HS1.out; omega) (HROW1.out.mod M.out (fun k _ h e => by have := HTT.out k h; have := HG.out; omega)) (by rw [List.length_append, HT8.out, HSL.out, HBL.out]; omega)).mono ?_
  rintro e wt ⟨rfl, he2, m2⟩
  have HE2 := Lib.hid he2
  have M2 := Lib.hid (M.out.trans m2 (fun _ _ h => h))
  clear HE M he2 m2 a0 a1 a2 a3
  have HE := HE2
  have M := M2
  clear HE2 M2
  obtain ⟨p10, q10, hb10, hv10⟩ := HE.out.ex
  have hl10 : (ST ++ (shaOf (ST ++ body)).take 8 ++ body).length = 24 + nb := by rw [List.length_append, List.length_append, HT8.out, HSL.out, HBL.out]
  rw [hl10] at hb10 hv10
  have c0 := cell_of hb10 0
  simp only [List.getElem?_toArray, List.getElem?_cons_zero] at c0
  have HF : Hid (IsVec (fun k => w.heap.size ≤ k) wt 5 1 (.slice p10 (24 + nb) q10) (24 + nb) (bys (textF kind gen seq body)) ∧ Mod nil w wt) := Lib.hid (by
    refine ⟨?_, HM1.out.new M.out (fun k hk => by have := HG.out; omega)⟩
    unfold textF
    rw [HBL.out, HST.out]
    exact hv10.mono (fun k hk h => by have := HG.out; omega))
  clear hb10 hv10 hl10
  go_wp2_with fail
  exact HPOST.out _ _ ⟨_, rfl, HF.out.1, HF.out.2⟩
end Go.Proofs.YtjilbnpehgigjaaGreat

/- Package frame: text. -/
import Derived.Test.YtdfahddpkkeldaaGreatFrame
import Derived.Test.YtdfahddpkkeldaaGreatEnts
import Derived.Laws.CopyOwn
import Derived.Laws.Tables
import Derived.Test.YtdfahddpkkeldaaGreatWireB
set_option linter.unusedSimpArgs false
set_option linter.unusedVariables false
namespace Go.Proofs.YtdfahddpkkeldaaGreat
open Go.RowKit
set_option maxRecDepth 100000 in
set_option maxHeartbeats 1000000 in
theorem frameText (tb kind gen seq nb cb : Nat) (pb : Option Addr) (T : Nat → Prop) (body : List UInt8) (w : World) (ht : IsTab w tb) (hrow : IsRow T w (.slice pb nb cb) (bys body)) (hT : ∀ k, T k → k < w.heap.size ∧ k ≠ tb)
  (h1 : kind ≤ 255) (h2 : gen ≤ 4294967295) (h3 : seq ≤ 4294967295) (h4 : nb ≤ 60000) :
  Calls Tryz.prog 94 #[.pointer (some ⟨tb, 0, none⟩), .agg #[.int .i64 kind, .int .i64 gen, .int .i64 seq, .slice pb nb cb]] w fun e w' => ∃ v, e = .returned v ∧ IsVec (fun k => w.heap.size ≤ k) w' 5 1 v (24 + nb) (bys (textF kind gen seq body)) ∧ IsTab w' tb ∧ Mod (· = tb) w w' := by
 refine (?_ : ∀ Post : Ending → World → Prop, Hid (∀ e w', (∃ v, e = .returned v ∧ IsVec (fun k => w.heap.size ≤ k) w' 5 1 v (24 + nb) (bys (textF kind gen seq body)) ∧ IsTab w' tb ∧ Mod (· = tb) w w') → Post e w') → Calls Tryz.prog 94 #[.pointer (some ⟨tb, 0, none⟩), .agg #[.int .i64 kind, .int .i64 gen, .int .i64 seq, .slice pb nb cb]] w Post) _ (Lib.hid (fun _ _ h => h))
 intro Post HPOST
 have hbl : body.length = nb := by
  obtain ⟨_, _, h, _⟩ := hrow
  simp only [Value.slice.injEq, bys_length] at h
  exact h.2.1.symm
 have HBL := Lib.hid hbl
 have HROW := Lib.hid hrow
 have HTT := Lib.hid hT
 have htl := ht.lt
 have HT := Lib.hid ht
 obtain ⟨ST, hST⟩ : ∃ ST, startsF kind gen seq nb = ST := ⟨_, rfl⟩
 have HST := Lib.hid hST
 have HSL : Hid (ST.length = 16) := Lib.hid (by rw [← hST]; exact startsF_length _ _ _ _)
 clear hrow hT ht hbl
 go_enter Tryz.func94, Tryz.ntmps94
 go_wp2_with fail
 obtain ⟨G, hG⟩ : ∃ G, w.heap.size = G := ⟨_, rfl⟩
 rw [hG] at htl ⊢
 generalize hw1 : World.alloc w _ = w1
 have hx1 : w1.heap[G]? = some (.cells #[.int .i64 kind, .int .i64 gen, .int .i64 seq, .slice pb nb cb] 122 (0, 0)) := by rw [← hw1, ← hG]; exact heap_alloc_new _ _
 have hm1 : Mod nil w w1 := by rw [← hw1]; exact (Mod.refl _ _).alloc _
 have hs1 : w1.heap.size = G + 1 := by rw [← hw1, ← hG]; simp
 have HG := Lib.hid hG
 refine (frameStarts kind gen seq nb cb pb w1 h1 h2 h3 h4).mono ?_
 rw [hs1, hST]
 rintro e w2 ⟨v5, rfl, hv5, hm2⟩
 have HS2 : Hid (G + 1 ≤ w2.heap.size) := Lib.hid (by have := hm2.size; omega)
 obtain ⟨p5, c5, rfl, hc5, -⟩ := vecCap hv5
 obtain ⟨B2, hB2⟩ : ∃ B2, w2.heap.size = B2 := ⟨_, rfl⟩
 have HB2 := Lib.hid hB2
 have HV5 : Hid (IsVec (fun k => G + 1 ≤ k ∧ k < B2) w2 5 1 (.slice p5 16 c5) 16 (bys ST)) := Lib.hid (hv5.mono (fun k hk h => ⟨h, by omega⟩))
 clear hB2
 have HX2 := Lib.hid (hm2.keep hx1)
 have HM2 := Lib.hid (hm1.thenNil hm2)
 clear hv5 hm2 hm1 hx1 hw1 hs1 hST hG
 go_wp2_with fail
 refine (shaNew2 tb w2 (HT.out.mod HM2.out (not_nil _))).mono ?_
 rintro e w3 ⟨b, rfl, hh3, hb3, ht3, hm3⟩
 have hbG : B2 ≤ b ∧ G < b ∧ tb < b ∧ tb < G + 1 := by have := HS2.out; have := HB2.out; omega
 have HV53 := Lib.hid (HV5.out.mod hm3 (fun k _ h1 h2 => by omega))
 have HX3 := Lib.hid ((hm3.block G (heap_lt HX2.out) (by omega)).trans HX2.out)
 have HM3 : Hid (Mod (· = tb) w w3) := Lib.hid (HM2.out.ofNil.trans hm3 (fun _ _ h => h))
 have HH3 := Lib.hid hh3
 have HT3 := Lib.hid ht3
 have HR3 : Hid (IsRow T w3 (.slice pb nb cb) (bys body)) := Lib.hid (HROW.out.mod HM3.out (fun k _ h e => (HTT.out k h).2 e))
 clear hh3 hb3 ht3 hm3
 go_wp2_with fail
 refine (shaWrite2 b tb nil (fun k => G + 1 ≤ k ∧ k < B2) (.slice p5 16 c5) [] ST w3 HH3.out (not_nil _) (not_nil _) (by omega) HT3.out HV53.out.row (by omega) (by have := HSL.out; simp; omega)).mono ?_
 rintro e w4 ⟨rfl, hh4, ht4, hm4⟩
 rw [List.nil_append] at hh4
 have hb3l := HH3.out.lt
 obtain ⟨B3, hB3⟩ : ∃ B3, w3.heap.size = B3 := ⟨_, rfl⟩
 rw [hB3] at hh4 hb3l
 have HV54 := Lib.hid (HV53.out.mod hm4 (fun k _ h1 h2 => by rcases h2 with h2 | h2 | h2; omega; omega; exact h2))
 have hx4 := (hm4.block G (heap_lt HX3.out) (by rintro (h | h | h); omega; omega; exact h)).trans HX3.out
 have HX4 := Lib.hid hx4
 have HM4 : Hid (Mod (· = tb) w w4) := Lib.hid (HM3.out.trans hm4 (fun k hk h => by rcases h with h | h | h; exact h; have := HG.out; omega; exact h.elim))
 have HH4 := Lib.hid hh4
 have HT4 := Lib.hid ht4
 have HR4 : Hid (IsRow T w4 (.slice pb nb cb) (bys body)) := Lib.hid (HROW.out.mod HM4.out (fun k _ h e => (HTT.out k h).2 e))
 have f3 := cell_of hx4 3
 simp only [List.getElem?_toArray, List.getElem?_cons_zero, List.getElem?_cons_succ] at f3
 have hB34 : B3 ≤ w4.heap.size := by have := hm4.size; omega
 clear hh4 ht4 hm4 hx4 hB3
 go_wp2_with fail
 refine (shaWrite2 b tb (fun k => B3 ≤ k) T (.slice pb nb cb) ST body w4 HH4.out (by omega) (by omega) (by omega) HT4.out HR4.out (fun h => by have := (HTT.out b h).1; have := HG.out; omega) (by have := HSL.out; have := HBL.out; omega)).mono ?_
 rintro e w5 ⟨rfl, hh5, ht5, hm5⟩
 have HV55 := Lib.hid (HV54.out.mod hm5 (fun k hk h1 h2 => by rcases h2 with h2 | h2 | h2 <;> omega))
 obtain ⟨B4, hB4⟩ : ∃ B4, w4.heap.size = B4 := ⟨_, rfl⟩
 rw [hB4] at hh5
 rw [hB4] at hB34
 have hx5 := (hm5.block G (heap_lt HX4.out) (by rintro (h | h | h) <;> omega)).trans HX4.out
 have HX5 := Lib.hid hx5
 have HM5 : Hid (Mod (· = tb) w w5) := Lib.hid (HM4.out.trans hm5 (fun k hk h => by have := HG.out; rcases h with h | h | h <;> omega))
 have HH5 := Lib.hid hh5
 have HT5 := Lib.hid ht5
 clear hh5 ht5 hm5 hx5 f3 hB4
 go_wp2_with fail
 refine (shaSum2 b tb (fun k => B4 ≤ k) (ST ++ body) w5 HH5.out (by omega) HT5.out (by have := HSL.out; have := HBL.out; simp; omega)).mono ?_
 rintro e w6 ⟨v6, rfl, hv6, ht6, hm6⟩
 obtain ⟨p6, c6, rfl, hc6, hcm6⟩ := vecCap hv6
 have HV56 := Lib.hid (HV55.out.mod hm6 (fun k hk h1 h2 => by omega))
 have HX6 := Lib.hid ((hm6.block G (heap_lt HX5.out) (by omega)).trans HX5.out)
 have HM6 : Hid (Mod (· = tb) w w6) := Lib.hid (HM5.out.trans hm6 (fun k hk h => h))
 have HT6 := Lib.hid ht6
 have hrow6 : IsRow (fun k => w5.heap.size ≤ k) w6 (.slice p6 8 c6) (bys ((shaOf (ST ++ body)).take 8)) := by
  rw [bysTake]
  exact rowFront hv6.row 8 (by rw [bys_length, shaOf_length]; omega)
 obtain ⟨v7, w7, hrun7, hv7, hm7⟩ := bytes_append (l := ST) (m := (shaOf (ST ++ body)).take 8) 40 (by rw [HSL.out]; exact HV56.out) hrow6 (by have := HSL.out; simp; omega)
 have hl7 : (ST ++ (shaOf (ST ++ body)).take 8).length = 24 := by rw [List.length_append, HSL.out, List.length_take, shaOf_length]; rfl
 rw [hl7] at hv7
 obtain ⟨p7, c7, rfl⟩ := hv7.form
 have hx7 := (hm7.block G (heap_lt HX6.out) (by omega)).trans HX6.out
 have HM7 : Hid (Mod (· = tb) w w7) := Lib.hid (HM6.out.trans hm7 (fun k hk h => by have := HG.out; omega))
 have HT7 : Hid (IsTab w7 tb) := Lib.hid (HT6.out.mod hm7 (by omega))
 have f3 := cell_of hx7 3
 simp only [List.getElem?_toArray, List.getElem?_cons_zero, List.getElem?_cons_succ] at f3
 have HV7 := Lib.hid hv7
 have HL7 := Lib.hid hl7
 have HRUN7 := Lib.hid hrun7
 obtain ⟨v8, w8, hrun8, hv8, hm8⟩ := bytes_append (l := ST ++ (shaOf (ST ++ body)).take 8) (m := body) 40 (by rw [hl7]; exact hv7) (HROW.out.mod HM7.out (fun k _ h e => (HTT.out k h).2 e)) (by rw [hl7]; have := HBL.out; omega)
 obtain ⟨p8, c8, rfl⟩ := hv8.form
 have hl8 : (ST ++ (shaOf (ST ++ body)).take 8 ++ body).length = 24 + nb := by rw [List.length_append, hl7, HBL.out]
 rw [hl8] at hv8 hrun8
 have HRUN8 := Lib.hid hrun8
 have hfin : IsVec (fun k => w.heap.size ≤ k) w8 5 1 (.slice p8 (24 + nb) c8) (24 + nb) (bys (textF kind gen seq body)) := by
  have h := hv8.mono (T := fun k => w.heap.size ≤ k) (fun k hk h => by have := HG.out; have := HM7.out.size; have := HM6.out.size; rcases h with (h | h) | h <;> omega)
  unfold textF
  rw [HBL.out, HST.out]
  exact h
 have HF := Lib.hid (And.intro hfin (And.intro (HT7.out.mod hm8 (by have := HT6.out.lt; omega)) (HM7.out.trans hm8 (fun k hk h => by have := HG.out; have := HM6.out.size; omega))))
 clear hrow6 hrun7 hv7 hm7 hrun8 hv8 hm8 hfin hv6 ht6 hm6 hx7 hl7
 go_wp2_with (first | (at_builtin; refine wpList_append_run rfl _ _ _ _ rfl rfl rfl HRUN7.out ?_) | (at_builtin; refine wpList_append_run rfl _ _ _ _ rfl rfl rfl HRUN8.out ?_))
 exact HPOST.out _ _ ⟨_, rfl, HF.out.1, HF.out.2.1, HF.out.2.2⟩
end Go.Proofs.YtdfahddpkkeldaaGreat

/- Frames as sectors: plain lists of bytes. -/
namespace Go.Proofs.YtdfahddpkkeldaaGreat
open Go.RowKit
/-- so many bytes, filled up with zeros -/
def fillTo (n : Nat) (l : List UInt8) : List UInt8 := l ++ List.replicate (n - l.length) 0
theorem fillTo_length (n : Nat) (l : List UInt8) (h : l.length ≤ n) : (fillTo n l).length = n := by simp [fillTo]; omega
/-- the sector number i of a text, whatever its number, marked with 2 -/
def sect2 (t : List UInt8) (i : Nat) : List UInt8 := 2 :: fillTo 63 ((t.drop (63 * i)).take 63)
theorem sect2_length (t : List UInt8) (i : Nat) : (sect2 t i).length = 64 := by
 simp only [sect2, List.length_cons]
 rw [fillTo_length _ _ (by simp; omega)]
/-- the first so many sectors -/
def sectsTo (t : List UInt8) : Nat → List UInt8
 | 0 => []
 | j + 1 => sectsTo t j ++ sect2 t j
theorem sectsTo_length (t : List UInt8) (j : Nat) : (sectsTo t j).length = 64 * j := by
 induction j with
 | zero => rfl
 | succ j ih => rw [sectsTo, List.length_append, ih, sect2_length]; omega
/-- what Put lays -/
def putF (kind gen seq : Nat) (body : List UInt8) : List UInt8 := (sectsTo (textF kind gen seq body) (sectorsF body.length)).set 0 1
theorem putF_length (kind gen seq : Nat) (body : List UInt8) : (putF kind gen seq body).length = 64 * sectorsF body.length := by rw [putF, List.length_set, sectsTo_length]
/-- what lies in memory behind j rounds -/
def outAt (t : List UInt8) (S j : Nat) : List UInt8 := sectsTo t j ++ List.replicate (64 * (S - j)) 0
theorem outAt_length (t : List UInt8) (S j : Nat) (h : j ≤ S) : (outAt t S j).length = 64 * S := by rw [outAt, List.length_append, sectsTo_length, List.length_replicate]; omega
theorem outAt_zero (t : List UInt8) (S : Nat) : outAt t S 0 = List.replicate (64 * S) 0 := rfl
theorem outAt_last (t : List UInt8) (S : Nat) : outAt t S S = sectsTo t S := by simp [outAt]
theorem outAt_succ (t : List UInt8) (S j : Nat) (h : j < S) : splice ((outAt t S j).set (64 * j) 2) (64 * j + 1) ((t.drop (63 * j)).take 63) = outAt t S (j + 1) := by
 have hP := sectsTo_length t j
 obtain ⟨P, hPe⟩ : ∃ P, sectsTo t j = P := ⟨_, rfl⟩
 obtain ⟨C, hC⟩ : ∃ C, (t.drop (63 * j)).take 63 = C := ⟨_, rfl⟩
 have hCl : C.length ≤ 63 := by rw [← hC, List.length_take]; omega
 have e : outAt t S (j + 1) = P ++ (2 :: (C ++ List.replicate (63 - C.length) 0)) ++ List.replicate (64 * (S - (j + 1))) 0 := by
  rw [outAt, sectsTo, hPe, sect2, hC]; rfl
 rw [e, hC, outAt, hPe]
 rw [hPe] at hP
 clear e hC hPe
 obtain ⟨m, hm⟩ : ∃ m, 64 * (S - j) = m + 64 := ⟨64 * (S - j) - 64, by omega⟩
 have hm2 : 64 * (S - (j + 1)) = m := by omega
 rw [hm, hm2]
 have h1 : (P ++ List.replicate (m + 64) (0 : UInt8)).set (64 * j) 2 = P ++ 2 :: List.replicate (m + 63) 0 := by
  rw [← hP, List.set_append_right _ _ (Nat.le_refl _), Nat.sub_self]; rfl
 rw [h1]
 unfold splice
 have h2 : (P ++ 2 :: List.replicate (m + 63) (0 : UInt8)).take (64 * j + 1) = P ++ [2] := by
  rw [← hP, List.take_length_add_append]; rfl
 have h3 : (P ++ 2 :: List.replicate (m + 63) (0 : UInt8)).drop (64 * j + 1 + C.length) = List.replicate (63 - C.length + m) 0 := by
  rw [← hP, Nat.add_assoc, List.drop_length_add_append, Nat.add_comm 1 C.length, List.drop_succ_cons, List.drop_replicate]
  congr 1
  omega
 rw [h2, h3, ← List.replicate_append_replicate]
 simp
theorem bys_set (l : List UInt8) (i : Nat) (b : UInt8) : (bys l).set i (.int .u8 b.toNat) = bys (l.set i b) := by simp [bys, List.map_set]
theorem bys_splice (l c : List UInt8) (o : Nat) : splice (bys l) o (bys c) = bys (splice l o c) := by simp [splice, bys, List.map_take, List.map_drop]
theorem bys_replicate (n : Nat) : bys (List.replicate n 0) = List.replicate n (.int .u8 0) := by simp [bys]
end Go.Proofs.YtdfahddpkkeldaaGreat

/- Package frame: Put. -/
namespace Go.Proofs.YtdfahddpkkeldaaGreat
open Go.RowKit
theorem framePut_long (tb kind gen seq nb cb : Nat) (pb : Option Addr) (w : World) (h4 : 60000 < nb) :
  Calls Tryz.prog 65 #[.pointer (some ⟨tb, 0, none⟩), .agg #[.int .i64 kind, .int .i64 gen, .int .i64 seq, .slice pb nb cb]] w fun e w' => e = .returned (.tuple #[.slice none 0 0, .int .i64 3]) ∧ Mod nil w w' := by
 have h5 : (60000 : Int) < (nb : Int) := by omega
 go_enter Tryz.func65, Tryz.ntmps65
 go_wp2_with fail
 go_ret2
 exact ⟨rfl, (Mod.refl _ _).alloc _⟩
set_option maxRecDepth 100000 in
set_option maxHeartbeats 2000000 in
theorem framePut (tb kind gen seq nb cb : Nat) (pb : Option Addr) (T : Nat → Prop) (body : List UInt8) (w : World) (ht : IsTab w tb) (hrow : IsRow T w (.slice pb nb cb) (bys body)) (hT : ∀ k, T k → k < w.heap.size ∧ k ≠ tb)
  (h1 : kind ≤ 255) (h2 : gen ≤ 4294967295) (h3 : seq ≤ 4294967295) (h4 : nb ≤ 60000) :
  Calls Tryz.prog 65 #[.pointer (some ⟨tb, 0, none⟩), .agg #[.int .i64 kind, .int .i64 gen, .int .i64 seq, .slice pb nb cb]] w fun e w' => ∃ g n, n = 64 * sectorsF nb ∧ e = .returned (.tuple #[.slice (some ⟨g, 0, none⟩) n n, .int .i64 0]) ∧ w.heap.size ≤ g ∧ w'.heap[g]? = some (.cells (bys (putF kind gen seq body)).toArray 5 (0, 0)) ∧ IsTab w' tb ∧ Mod (· = tb) w w' := by
 refine (?_ : ∀ Post : Ending → World → Prop, Hid (∀ e w', (∃ g n, n = 64 * sectorsF nb ∧ e = .returned (.tuple #[.slice (some ⟨g, 0, none⟩) n n, .int .i64 0]) ∧ w.heap.size ≤ g ∧ w'.heap[g]? = some (.cells (bys (putF kind gen seq body)).toArray 5 (0, 0)) ∧ IsTab w' tb ∧ Mod (· = tb) w w') → Post e w') → Calls Tryz.prog 65 #[.pointer (some ⟨tb, 0, none⟩), .agg #[.int .i64 kind, .int .i64 gen, .int .i64 seq, .slice pb nb cb]] w Post) _ (Lib.hid (fun _ _ h => h))
 intro Post HPOST
 have hbl : body.length = nb := by
  obtain ⟨_, _, h, _⟩ := hrow
  simp only [Value.slice.injEq, bys_length] at h
  exact h.2.1.symm
 have HBL := Lib.hid hbl
 have HROW := Lib.hid hrow
 have HTT := Lib.hid hT
 have htl := ht.lt
 have HT := Lib.hid ht
 have hsec := frameSectors nb
 rw [if_pos (by omega), Int.toNat_natCast] at hsec
 obtain ⟨S, hS⟩ : ∃ S, sectorsF nb = S := ⟨_, rfl⟩
 have hSb : 24 + nb ≤ 63 * S ∧ 63 * S < 24 + nb + 63 ∧ 1 ≤ S ∧ S ≤ 1000 := by rw [← hS]; unfold sectorsF; omega
 rw [hS] at HPOST hsec
 have HS := Lib.hid hS
 have HSEC := Lib.hid hsec
 obtain ⟨i0, hi, hz0, hz1, hz2⟩ := info_parts info_u8
 have hmk := run_make_one (P := Tryz.prog) 40 5 i0 (.int .u8 0) 1 Tryz.underlying40 hi hz0 hz1 hz2 rfl (64 * S) (by omega) (by unfold maxLen; omega)
 have hmul : 64 * (S : Int) = ((64 * S : Nat) : Int) := by omega
 rw [← hmul] at hmk
 clear hrow hT ht hbl hS hsec hi hz0 hz1 hz2 hmul
 have d1 : decide ((60000 : Int) < (nb : Int)) = false := by simp; omega
 have d2 : decide ((kind : Int) < 0) = false := by simp; try omega
 have d3 : decide ((255 : Int) < (kind : Int)) = false := by simp; omega
 have d4 : decide ((gen : Int) < 0) = false := by simp; try omega
 have d5 : decide ((4294967295 : Int) < (gen : Int)) = false := by simp; omega
 have d6 : decide ((seq : Int) < 0) = false := by simp; try omega
 have d7 : decide ((4294967295 : Int) < (seq : Int)) = false := by simp; omega
 go_enter Tryz.func65, Tryz.ntmps65
 go_upto_region 5 with (fail)
 obtain ⟨G, hG⟩ : ∃ G, w.heap.size = G := ⟨_, rfl⟩
 rw [hG] at htl HPOST ⊢
 generalize hw1 : World.alloc w _ = w1
 have hx1 : w1.heap[G]? = some (.cells #[.int .i64 kind, .int .i64 gen, .int .i64 seq, .slice pb nb cb] 122 (0, 0)) := by rw [← hw1, ← hG]; exact heap_alloc_new _ _
 have hm1 : Mod nil w w1 := by rw [← hw1]; exact (Mod.refl _ _).alloc _
 have hs1 : w1.heap.size = G + 1 := by rw [← hw1, ← hG]; simp
 have HG := Lib.hid hG
 have f0 := cell_of hx1 0
 have f1 := cell_of hx1 1
 have f2 := cell_of hx1 2
 have f3 := cell_of hx1 3
 simp only [List.getElem?_toArray, List.getElem?_cons_zero, List.getElem?_cons_succ] at f0 f1 f2 f3
 have HX1 := Lib.hid hx1
 have HM1 := Lib.hid hm1
 have HS1 := Lib.hid hs1
 clear hw1 hx1 hm1 hs1 hG
 go_wp2_with fail
 refine (frameText tb kind gen seq nb cb pb T body w1 (HT.out.mod HM1.out (not_nil _)) (HROW.out.modNil HM1.out) (fun k hk => ⟨by have := HTT.out k hk; have := HS1.out; have := HG.out; omega, (HTT.out k hk).2⟩) h1 h2 h3 h4).mono ?_
 rw [HS1.out]
 rintro e w2 ⟨v, rfl, hv2, ht2, hm2⟩
 obtain ⟨t, htx⟩ : ∃ t, textF kind gen seq body = t := ⟨_, rfl⟩
 rw [htx] at hv2
 have htl' : t.length = 24 + nb := by rw [← htx, textF_length, HBL.out]
 obtain ⟨p, c, rfl, hc1, hc2⟩ := vecCap hv2
 obtain ⟨gt, rfl, hgt, hgt2⟩ := vecBlock hv2 (by omega)
 have hx2 := (hm2.block G (by have := HS1.out; omega) (by omega)).trans HX1.out
 have hm02 : Mod (· = tb) w w2 := HM1.out.ofNil.trans hm2 (fun _ _ h => h)
 have f3 := cell_of hx2 3
 simp only [List.getElem?_toArray, List.getElem?_cons_zero, List.getElem?_cons_succ] at f3
 obtain ⟨g, hg⟩ : ∃ g, w2.heap.size = g := ⟨_, rfl⟩
 have hmk2 := hmk w2
 rw [hg] at hgt2
 have HTXT := Lib.hid htx
 have HTL := Lib.hid htl'
 have HV2 := Lib.hid hv2
 have HT2 := Lib.hid ht2
 have HM2 := Lib.hid hm02
 have HG2 := Lib.hid hg
 clear htx htl' hv2 ht2 hm2 hm02 hx2 HX1 HM1 hmk f0 f1 f2 hg
 unfold maxLen at hc2
 go_wp2_with fail
 refine (HSEC.out w2).mono ?_
 rintro e w3 ⟨rfl, rfl⟩
 clear HSEC
 go_wp2_with fail
 rw [show w2.heap.size = g from HG2.out]
 generalize hw3 : World.alloc w2 _ = w3
 have hg3 : w3.heap[g]? = some (.cells (bys (outAt t S 0)).toArray 5 (0, 0)) := by
  rw [← hw3, ← HG2.out, outAt_zero, bys_replicate, ← List.toArray_replicate]; exact heap_alloc_new _ _
 have hm3 : Mod (fun k => g ≤ k) w2 w3 := by rw [← hw3]; exact (Mod.refl _ _).alloc _
 have HG3 := Lib.hid hg3
 have HM3 := Lib.hid hm3
 have HTC : Hid (∀ i, i < 24 + nb → w2.cell? ⟨gt, i, none⟩ = some (.int .u8 (t.getD i 0).toNat)) := Lib.hid (fun i hi => by
  obtain ⟨p', c', hp, hcc⟩ := HV2.out.row
  obtain ⟨b', o', q1, q2, q3, q4⟩ := hcc i (by rw [bys_length, HTL.out]; exact hi)
  simp only [Value.slice.injEq] at hp
  obtain ⟨rfl, -, -⟩ := hp
  simp only [Option.some.injEq, Addr.mk.injEq, and_true] at q1
  obtain ⟨rfl, rfl⟩ := q1
  rw [Nat.zero_add, bys_getD _ _ (by rw [HTL.out]; exact hi)] at q4
  exact q4)
 have hsz : (Tryz.prog.info? 5).map (·.size) = some 1 := by kernel_rfl
 clear hw3 hg3 hm3 f3 hmk2
 go_loopw [6, 8] (fun v6 v8 wr => ∃ j X : Nat, j ≤ S ∧ v8 = .int .i64 X ∧ Hid (X = 64 * j) ∧ X ≤ 64 * S ∧ Hid (j < S → v6 = .slice (some ⟨gt, 63 * j, none⟩) (24 + nb - 63 * j) (c - 63 * j)) ∧ Hid (wr.heap[g]? = some (.cells (bys (outAt t S j)).toArray 5 (0, 0))) ∧ Hid (Mod (fun k => g ≤ k) w2 wr)) (fun _ v _ => 64 * S - (intOf v).toNat)
 case atStart => exact ⟨0, 0, by omega, rfl, Lib.hid rfl, by omega, Lib.hid (fun _ => rfl), HG3, HM3⟩
 case round =>
  obtain ⟨j, X, hj, rfl, HX, hX, H6, HGR, HMR⟩ := hrel
  by_cases hlt : j < S
  ·obtain rfl := H6.out hlt
   clear H6
   have hX1 : X + 64 ≤ 64 * S := by have := HX.out; omega
   obtain ⟨Y, hY⟩ : ∃ Y, 63 * j = Y := ⟨_, rfl⟩
   obtain ⟨L, hL⟩ : ∃ L, 24 + nb - 63 * j = L := ⟨_, rfl⟩
   obtain ⟨C, hC⟩ : ∃ C, c - 63 * j = C := ⟨_, rfl⟩
   have hL0 : 0 < L ∧ L ≤ C ∧ C ≤ c := by omega
   have hLm : (j + 1 < S → 63 < L) ∧ (¬ j + 1 < S → L ≤ 63) ∧ Y + L = 24 + nb := by omega
   obtain ⟨CH, hCH⟩ : ∃ CH, (t.drop Y).take 63 = CH := ⟨_, rfl⟩
   have hCHl : CH.length = Nat.min L 63 := by
    rw [← hCH, List.length_take, List.length_drop, HTL.out]
    show min 63 (24 + nb - Y) = min L 63
    omega
   have HNX : Hid (splice ((outAt t S j).set X 2) (X + 1) CH = outAt t S (j + 1)) := Lib.hid (by rw [HX.out, ← hCH, ← hY]; exact outAt_succ t S j hlt)
   have hol : (outAt t S j).length = 64 * S := outAt_length t S j hj
   have cX := cell_of HGR.out X
   have zX := free_of HGR.out X
   have hbX : (bys (outAt t S j)).toArray[X]? = some (.int .u8 ((outAt t S j).getD X 0).toNat) := by
    rw [List.getElem?_toArray]
    simp [bys, hol, show X < 64 * S by omega]
   rw [hbX] at cX
   have HSET : Hid ((wr.setCell ⟨g, X, none⟩ (.int .u8 2)).heap[g]? = some (.cells (bys ((outAt t S j).set X 2)).toArray 5 (0, 0))) := Lib.hid (by
    rw [heap_setCell_same HGR.out, List.setIfInBounds_toArray, show (Value.int .u8 2) = Value.int .u8 (2 : UInt8).toNat from rfl, bys_set])
   have HSM : Hid (Mod (fun k => g ≤ k) w2 (wr.setCell ⟨g, X, none⟩ (.int .u8 2))) := Lib.hid (HMR.out.setCell _ _ (fun _ => Nat.le_refl _))
   have HCN : Hid ((bys CH).length = Nat.min L 63) := Lib.hid (by rw [bys_length]; exact hCHl)
   have hsrc : ∀ i v, (bys CH)[i]? = some v → (wr.setCell ⟨g, X, none⟩ (.int .u8 2)).cell? ((⟨gt, Y, none⟩ : Addr).add i) = some v := fun i v hv => by
    have hil : i < (bys CH).length := by
     rcases Nat.lt_or_ge i (bys CH).length with h | h
     ·exact h
     ·rw [List.getElem?_eq_none h] at hv; cases hv
    have hi2 : i < L ∧ i < 63 := by have h := HCN.out; have : Nat.min L 63 = min L 63 := rfl; omega
    have e : (⟨gt, Y, none⟩ : Addr).add i = ⟨gt, Y + i, none⟩ := by unfold Addr.add; split <;> simp_all
    rw [e]
    have h1 := HTC.out (Y + i) (by omega)
    have h2 := cell_kept h1 HSM.out (World.block_lt_of_cell? _ _ h1) (show ¬ g ≤ gt by omega)
    rw [h2, ← hv, ← hCH]
    simp [bys, List.getElem?_take, List.getElem?_drop, hi2.2, HTL.out, show Y + i < 24 + nb by omega]
   have hfit : X + 1 + (bys CH).length ≤ (bys ((outAt t S j).set X 2)).toArray.size := by
    rw [List.size_toArray, bys_length, bys_length, List.length_set, hol, hCHl]
    have : Nat.min L 63 = min L 63 := rfl
    omega
   have hcopy := run_copy_row (P := Tryz.prog) (wr.setCell ⟨g, X, none⟩ (.int .u8 2)) 40 40 3 5 g (X + 1) 63 (64 * S - (X + 1)) ⟨gt, Y, none⟩ L C (bys ((outAt t S j).set X 2)).toArray 5 (bys CH) Tryz.underlying40 hsz HSET.out HCN.out hsrc hfit (bys_one _)
   have hg4 := setRow_heap (wr.setCell ⟨g, X, none⟩ (.int .u8 2)) g _ (splice (bys ((outAt t S j).set X 2)) (X + 1) (bys CH)).toArray _ _ HSET.out
   have hm4 := HSM.out.rowSet g (splice (bys ((outAt t S j).set X 2)) (X + 1) (bys CH)).toArray (fun _ => Nat.le_refl _)
   rw [show ((bys ((outAt t S j).set X 2)).toArray.toList.take (X + 1) ++ bys CH ++ (bys ((outAt t S j).set X 2)).toArray.toList.drop (X + 1 + (bys CH).length)) = splice (bys ((outAt t S j).set X 2)) (X + 1) (bys CH) from List.append_assoc _ _ _] at hcopy
   generalize World.setRow _ g (splice (bys ((outAt t S j).set X 2)) (X + 1) (bys CH)).toArray = w4 at hcopy hg4 hm4
   rw [bys_splice, HNX.out] at hg4
   have HG4 := Lib.hid hg4
   have HM4 := Lib.hid hm4
   have HY := Lib.hid hY
   have HL := Lib.hid hL
   have HC := Lib.hid hC
   have hcs : ¬ 64 * S = X + 1 := by omega
   rw [hY]
   have hL' : 24 + nb - Y = L := by omega
   have hC' : c - Y = C := by omega
   rw [hL', hC']
   clear hol hbX hL hC hL' hC' hCH hCHl HGR HMR hsrc hfit hg4 hm4
   by_cases hmore : j + 1 < S
   ·have hL63 := hLm.1 hmore
    have HCB : Hid ((bys CH).length = 63) := Lib.hid (by rw [HCN.out]; exact Nat.min_eq_right (by omega))
    have hC63 : ¬ C = 63 := by omega
    clear hLm hY
    rw [HCB.out] at hcopy
    go_wp2_with fail
    exact ⟨⟨j + 1, X + 64, by omega, by go_num, Lib.hid (by have := HX.out; omega), by omega, Lib.hid (fun _ => by rw [show 63 * (j + 1) = Y + 63 by have := HY.out; omega, show 24 + nb - (Y + 63) = L - 63 by have := HL.out; have := HY.out; omega, show c - (Y + 63) = C - 63 by have := HC.out; have := HY.out; omega]), Lib.hid (by exact HG4.out), HM4⟩, by simp [intOf] <;> omega⟩
   ·have hL63 := hLm.2.1 hmore
    have HCB : Hid ((bys CH).length = L) := Lib.hid (by rw [HCN.out]; exact Nat.min_eq_left (by omega))
    clear hLm hY
    by_cases hCL : C = L
    ·subst hCL
     rw [HCB.out] at hcopy
     go_wp2_with fail
     exact ⟨⟨j + 1, X + 64, by omega, by go_num, Lib.hid (by have := HX.out; omega), by omega, Lib.hid (fun h => absurd h (by omega)), Lib.hid (by exact HG4.out), HM4⟩, by simp [intOf] <;> omega⟩
    ·
     rw [HCB.out] at hcopy
     go_wp2_with fail
     exact ⟨⟨j + 1, X + 64, by omega, by go_num, Lib.hid (by have := HX.out; omega), by omega, Lib.hid (fun h => absurd h (by omega)), Lib.hid (by exact HG4.out), HM4⟩, by simp [intOf] <;> omega⟩
  ·obtain rfl : j = S := by omega
   have hgr := HGR.out
   rw [outAt_last] at hgr
   have hX0 : X = 64 * j := HX.out
   have c0 := cell_of hgr 0
   have z0 := free_of hgr 0
   have hb0 : (bys (sectsTo t j)).toArray[0]? = some (.int .u8 ((sectsTo t j).getD 0 0).toNat) := by
    rw [List.getElem?_toArray]
    simp [bys, sectsTo_length, show 0 < 64 * j by omega]
   rw [hb0] at c0
   have hge : ¬ X < 64 * j := by omega
   have hfin : (wr.setCell ⟨g, 0, none⟩ (.int .u8 1)).heap[g]? = some (.cells (bys (putF kind gen seq body)).toArray 5 (0, 0)) := by
    rw [heap_setCell_same hgr, List.setIfInBounds_toArray, show (Value.int .u8 1) = Value.int .u8 (1 : UInt8).toNat from rfl, bys_set]
    unfold putF
    rw [HTXT.out, HBL.out, HS.out]
   have hmf : Mod (· = tb) w (wr.setCell ⟨g, 0, none⟩ (.int .u8 1)) := HM2.out.trans (HMR.out.setCell _ _ (fun _ => Nat.le_refl _)) (fun k hk h => by have h' : g ≤ k := h; have := HG.out; omega)
   have htf : IsTab (wr.setCell ⟨g, 0, none⟩ (.int .u8 1)) tb := HT2.out.mod (HMR.out.setCell _ _ (fun _ => Nat.le_refl _)) (show ¬ g ≤ tb by omega)
   have hps : 0 < 64 * j := by omega
   have HF := Lib.hid (And.intro hfin (And.intro htf hmf))
   have HGG : Hid (G ≤ g) := Lib.hid (by omega)
   clear hX0 hb0 hfin hmf htf hgr H6 HGR HMR HX
   go_wp2_with fail
   exact HPOST.out _ _ ⟨g, 64 * j, rfl, rfl, HGG.out, HF.out.1, HF.out.2.1, HF.out.2.2⟩
end Go.Proofs.YtdfahddpkkeldaaGreat

/- Package frame: lifts. -/
namespace Go.Proofs.YtdfahddpkkeldaaGreat
open Go.RowKit
def markF (i : Nat) : UInt8 := if i = 0 then 1 else 2
/-- are the marks of the first so many sectors right? -/
def marksOk (b : List UInt8) (n : Nat) : Bool := (List.range n).all fun i => b.getD (64 * i) 0 == markF i
theorem marksOk_succ (b : List UInt8) (i : Nat) : marksOk b (i + 1) = (marksOk b i && (b.getD (64 * i) 0 == markF i)) := by simp [marksOk, List.range_succ]
theorem marksOk_mono (b : List UInt8) (i n : Nat) (h : i ≤ n) (hn : marksOk b n = true) : marksOk b i = true := by
 unfold marksOk at hn ⊢
 rw [List.all_eq_true] at hn ⊢
 intro x hx
 exact hn x (List.mem_range.2 (Nat.lt_of_lt_of_le (List.mem_range.1 hx) h))
def tailsTo (b : List UInt8) : Nat → List UInt8
 | 0 => []
 | i + 1 => tailsTo b i ++ (b.drop (64 * i + 1)).take 63
theorem tailsTo_length (b : List UInt8) (n : Nat) (h : 64 * n ≤ b.length) : (tailsTo b n).length = 63 * n := by
 induction n with
 | zero => rfl
 | succ n ih => rw [tailsTo, List.length_append, ih (by omega), List.length_take, List.length_drop]; omega
def liftOk (b : List UInt8) (n : Nat) : Bool := decide (64 * n ≤ b.length) && marksOk b n
def Lifted (w w' : World) (b : List UInt8) (n : Nat) (e : Ending) : Prop :=
 (liftOk b n = true ∧ ∃ v, e = .returned (.tuple #[v, .bool true]) ∧ IsVec (fun k => w.heap.size ≤ k) w' 5 1 v (63 * n) (bys (tailsTo b n)) ∧ Mod nil w w') ∨
 (liftOk b n = false ∧ e = .returned (.tuple #[.slice none 0 0, .bool false]) ∧ Mod nil w w')
set_option maxRecDepth 100000 in
set_option maxHeartbeats 2000000 in
theorem frameLifts (T : Nat → Prop) (p : Option Addr) (len cap n : Nat) (b : List UInt8) (w : World) (hrow : IsRow T w (.slice p len cap) (bys b)) (hcap : len ≤ cap) (hn : n ≤ 1000) (hc63 : cap ≤ maxLen) :
  Calls Tryz.prog 117 #[.slice p len cap, .int .i64 n] w fun e w' => Lifted w w' b n e := by
 refine (?_ : ∀ Post : Ending → World → Prop, Hid (∀ e w', (Lifted w w' b n e) → Post e w') → Calls Tryz.prog 117 #[.slice p len cap, .int .i64 n] w Post) _ (Lib.hid (fun _ _ h => h))
 intro Post HPOST
 unfold maxLen at hc63
 have hbl : b.length = len := by
  obtain ⟨_, _, h, _⟩ := hrow
  simp only [Value.slice.injEq, bys_length] at h
  exact h.2.1.symm
 have HBL := Lib.hid hbl
 have HROW := Lib.hid hrow
 clear hrow hbl
 by_cases hlen : len < 64 * n
 ·have hbad : liftOk b n = false := by unfold liftOk; rw [decide_eq_false (by rw [HBL.out]; omega)]; rfl
  have HEND : Hid (Post (.returned (.tuple #[.slice none 0 0, .bool false])) w) := Lib.hid (HPOST.out _ _ (.inr ⟨hbad, rfl, Mod.refl _ _⟩))
  have h1 : (len : Int) < (n : Int) * 64 := by omega
  clear hbad
  go_enter Tryz.func117, Tryz.ntmps117
  go_wp2_with fail
  exact HEND.out
 ·have h1 : ¬ (len : Int) < (n : Int) * 64 := by omega
  have h1' : decide ((len : Int) < (n : Int) * 64) = false := by simp; omega
  obtain ⟨B, hB⟩ : ∃ B, w.heap.size = B := ⟨_, rfl⟩
  have HB := Lib.hid hB
  clear hB
  go_enter Tryz.func117, Tryz.ntmps117
  go_wp2_with fail
  go_loopw [6, 15] (fun v6 v15 wr => ∃ (i k : Nat) (q : Option Addr) (d : Nat), i ≤ n ∧ v15 = .int .i64 i ∧ v6 = .slice q k d ∧ k ≤ 64000 ∧ Hid (k = 63 * i) ∧ Hid (marksOk b i = true) ∧ Hid (IsVec (fun k => B ≤ k) wr 5 1 (.slice q k d) k (bys (tailsTo b i))) ∧ Hid (Mod nil w wr)) (fun _ v _ => n - (intOf v).toNat)
  case atStart => exact ⟨0, 0, none, 0, by omega, rfl, rfl, by omega, Lib.hid rfl, Lib.hid rfl, Lib.hid (IsVec.nil _ _ _ _), Lib.hid (Mod.refl _ _)⟩
  case round =>
   obtain ⟨i, k, q, d, hi, rfl, rfl, hk, HK, HMK, HVR, HMR⟩ := hrel
   by_cases hlt : i < n
   ·obtain ⟨g, o, rfl, -, -⟩ := row_some HROW.out (by omega)
    obtain ⟨X, hX⟩ : ∃ X, 64 * i = X := ⟨_, rfl⟩
    have hXl : X + 64 ≤ len ∧ X + 64 ≤ cap := by omega
    have hm1 : IntKind.i64.wrap ((i : Int) * 64) = (X : Int) := by rw [IntKind.wrap_i64]; omega
    have hm1' : (i : Int) * 64 = (X : Int) := by omega
    have hm2' : ((i : Int) + 1) * 64 = (X : Int) + 64 := by omega
    have hx1 : ¬ cap = X := by omega
    have hx2 : ¬ cap - X = 1 := by omega
    have hrow2 : IsRow T w (.slice (some ⟨g, o + X + 1, none⟩) 63 (cap - X - 1)) (bys ((b.drop (X + 1)).take 63)) := by
     have h1 := row_drop HROW.out X (by rw [bys_length, HBL.out]; omega)
     have h2 := rowFront h1 64 (by rw [List.length_drop, bys_length, HBL.out]; omega)
     have h3 := row_drop h2 1 (by rw [List.length_take, List.length_drop, bys_length, HBL.out]; omega)
     have e : bys ((b.drop (X + 1)).take 63) = (((bys b).drop X).take 64).drop 1 := by
      rw [List.drop_take, List.drop_drop]
      simp [bys, List.map_take, List.map_drop]
     rw [e]
     exact h3
    have hcl : ((b.drop (X + 1)).take 63).length = 63 := by rw [List.length_take, List.length_drop, HBL.out]; omega
    have hc0 : wr.cell? ⟨g, o + X, none⟩ = some (.int .u8 (b.getD X 0).toNat) := by
     obtain ⟨p', c', hp, hcc⟩ := HROW.out
     obtain ⟨b', o', q1, q2, q3, q4⟩ := hcc X (by rw [bys_length, HBL.out]; omega)
     simp only [Value.slice.injEq] at hp
     obtain ⟨rfl, -, -⟩ := hp
     simp only [Option.some.injEq, Addr.mk.injEq, and_true] at q1
     obtain ⟨rfl, rfl⟩ := q1
     rw [bys_getD _ _ (by rw [HBL.out]; omega)] at q4
     exact cell_kept q4 HMR.out q3 (not_nil _)
    have htl : (tailsTo b i).length = k := by rw [tailsTo_length b i (by rw [HBL.out]; omega), HK.out]
    obtain ⟨v7, w7, hrun, hv7, hm7⟩ := bytes_append (l := tailsTo b i) (m := (b.drop (X + 1)).take 63) 40 (by rw [htl]; exact HVR.out) (hrow2.modNil HMR.out) (by rw [htl, hcl]; omega)
    have hl7 : (tailsTo b i ++ (b.drop (X + 1)).take 63).length = k + 63 := by rw [List.length_append, htl, hcl]
    rw [hl7] at hv7
    obtain ⟨p7, c7, rfl⟩ := hv7.form
    have HRUN := Lib.hid hrun
    have HV7 : Hid (IsVec (fun k => B ≤ k) w7 5 1 (.slice p7 (k + 63) c7) (k + 63) (bys (tailsTo b (i + 1)))) := Lib.hid (by
     rw [tailsTo, hX]
     exact hv7.mono (fun j _ h => h.elim id (fun h => by have := HMR.out.size; have := HB.out; omega)))
    have HM7 : Hid (Mod nil w w7) := Lib.hid (HMR.out.new hm7 (fun j h => by have := HB.out; omega))
    have hmk := marksOk_succ b i
    rw [hX, HMK.out, Bool.true_and] at hmk
    obtain ⟨x, hx⟩ : ∃ x, b.getD X 0 = x := ⟨_, rfl⟩
    rw [hx] at hc0 hmk
    have HMKS := Lib.hid hmk
    clear hrow2 hcl htl hrun hv7 hm7 hl7 hmk hX hx
    by_cases hz : i = 0
    ·by_cases hok : x = 1
     ·have hc1 : wr.cell? ⟨g, o + X, none⟩ = some (.int .u8 1) := by rw [hc0, hok]; rfl
      have z1 : ((i : Int) == 0) = true := by simp; omega
      have z2 : decide (0 < (i : Int)) = false := by simp; omega
      have z3 : ¬ 0 < i := by omega
      have z4 : ((i : Int) = 0) := by omega
      have HMI : Hid (marksOk b (i + 1) = true) := Lib.hid (by rw [HMKS.out, hok]; simp [markF, hz])
      clear hc0 z4 hz hok
      go_wp2_with (first | (at_builtin; refine wpList_append_run rfl _ _ _ _ rfl rfl rfl HRUN.out ?_))
      exact ⟨⟨i + 1, k + 63, p7, c7, by omega, by go_num, rfl, by have := HK.out; omega, Lib.hid (by have := HK.out; omega), HMI, HV7, HM7⟩, by simp [intOf]; omega⟩
     ·obtain ⟨y, hy⟩ : ∃ y, x.toNat = y := ⟨_, rfl⟩
      rw [hy] at hc0
      have hyn : y ≠ 1 := fun e => hok (by rw [← UInt8.toNat_inj, hy, e]; rfl)
      have hy1 : ((y : Int) == 1) = false := by simp; omega
      have hy2 : ((y : Int) != 1) = true := by simp; omega
      have hy3 : ¬ (y : Int) = 1 := by omega
      have hbad : liftOk b n = false := by
       unfold liftOk
       cases hmm : marksOk b n with
       | false => simp
       | true =>
        have h := marksOk_mono b (i + 1) n (by omega) hmm
        rw [HMKS.out] at h
        exact absurd (by simpa [markF, hz] using h) hok
      have HEND : Hid (Post (.returned (.tuple #[.slice none 0 0, .bool false])) wr) := Lib.hid (HPOST.out _ _ (.inr ⟨hbad, rfl, HMR.out⟩))
      have z1 : ((i : Int) == 0) = true := by simp; omega
      have z2 : decide (0 < (i : Int)) = false := by simp; omega
      have z3 : ¬ 0 < i := by omega
      have z4 : ((i : Int) = 0) := by omega
      clear hbad hy hyn z4 hz hok
      go_wp2_with fail
      exact HEND.out
    ·by_cases hok : x = 2
     ·have hc1 : wr.cell? ⟨g, o + X, none⟩ = some (.int .u8 2) := by rw [hc0, hok]; rfl
      have z1 : ((i : Int) == 0) = false := by simp; omega
      have z2 : decide (0 < (i : Int)) = true := by simp; omega
      have z3 : 0 < i := by omega
      have z4 : ¬ ((i : Int) = 0) := by omega
      have HMI : Hid (marksOk b (i + 1) = true) := Lib.hid (by rw [HMKS.out, hok]; simp [markF, hz])
      clear hc0 hz hok
      go_wp2_with (first | (at_builtin; refine wpList_append_run rfl _ _ _ _ rfl rfl rfl HRUN.out ?_))
      exact ⟨⟨i + 1, k + 63, p7, c7, by omega, by go_num, rfl, by have := HK.out; omega, Lib.hid (by have := HK.out; omega), HMI, HV7, HM7⟩, by simp [intOf]; omega⟩
     ·obtain ⟨y, hy⟩ : ∃ y, x.toNat = y := ⟨_, rfl⟩
      rw [hy] at hc0
      have hyn : y ≠ 2 := fun e => hok (by rw [← UInt8.toNat_inj, hy, e]; rfl)
      have hy1 : ((y : Int) == 2) = false := by simp; omega
      have hy2 : ((y : Int) != 2) = true := by simp; omega
      have hy3 : ¬ (y : Int) = 2 := by omega
      have hbad : liftOk b n = false := by
       unfold liftOk
       cases hmm : marksOk b n with
       | false => simp
       | true =>
        have h := marksOk_mono b (i + 1) n (by omega) hmm
        rw [HMKS.out] at h
        exact absurd (by simpa [markF, hz] using h) hok
      have HEND : Hid (Post (.returned (.tuple #[.slice none 0 0, .bool false])) wr) := Lib.hid (HPOST.out _ _ (.inr ⟨hbad, rfl, HMR.out⟩))
      have z1 : ((i : Int) == 0) = false := by simp; omega
      have z2 : decide (0 < (i : Int)) = true := by simp; omega
      have z3 : 0 < i := by omega
      have z4 : ¬ ((i : Int) = 0) := by omega
      clear hbad hy hyn hz hok
      go_wp2_with fail
      exact HEND.out
   ·obtain rfl : i = n := by omega
    have hok : liftOk b i = true := by unfold liftOk; rw [decide_eq_true (by rw [HBL.out]; omega), HMK.out]; rfl
    obtain rfl : k = 63 * i := HK.out
    have HEND : Hid (Post (.returned (.tuple #[.slice q (63 * i) d, .bool true])) wr) := Lib.hid (HPOST.out _ _ (.inl ⟨hok, _, rfl, HVR.out.mono (fun k _ h => by have := HB.out; omega), HMR.out⟩))
    clear hok HVR HMR HMK HK
    go_wp2_with fail
    exact HEND.out
end Go.Proofs.YtdfahddpkkeldaaGreat

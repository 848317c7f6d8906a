/- Package journal: the object; size, Room, Gen, read. -/
import Derived.Deep.QuietTactic
import Derived.BigQuiet
import Derived.Test.YtdfahddpkkeldaaGreatFrameE
import Derived.Test.YtdfahddpkkeldaaGreatEnts
import Derived.Test.YtdfahddpkkeldaaGreatCurs
import Derived.Deep.RegionHeld3
set_option linter.unusedSimpArgs false
set_option linter.unusedVariables false
namespace Go.Proofs.YtdfahddpkkeldaaGreat
open Go.RowKit
structure JS where
 down : Bool
 has : Bool
 half : Nat
 gen : Nat
 at_ : Nat
 pict : List UInt8
 recs : List (List UInt8)
/-- a journal at block jb over the disk db, by the table tb; all of its own blocks are in S -/
structure IsJ (S : Nat → Prop) (w : World) (jb tb db : Nat) (s : JS) : Prop where
 own : S jb
 ex : ∃ pp cp pr cr, w.heap[jb]? = some (.cells #[.pointer (some ⟨tb, 0, none⟩), .pointer (some ⟨db, 0, none⟩), .bool s.down, .int .i64 s.half, .int .i64 s.gen, .bool s.has, .slice pp s.pict.length cp, .slice pr s.recs.length cr, .int .i64 s.at_] 118 (0, 0)) ∧
  IsRow (fun k => S k ∧ k ≠ jb ∧ ¬ (Value.slice pr s.recs.length cr).ownBlock = some k) w (.slice pp s.pict.length cp) (bys s.pict) ∧ IsTexts (fun k => S k ∧ k ≠ jb) w (.slice pr s.recs.length cr) s.recs.length s.recs
theorem IsJ.mod {S T : Nat → Prop} {w w' : World} {jb tb db : Nat} {s : JS} (h : IsJ S w jb tb db s) (m : Mod T w w') (hs : ∀ k, k < w.heap.size → S k → ¬ T k) : IsJ S w' jb tb db s := by
 obtain ⟨pp, cp, pr, cr, h1, h2, h3⟩ := h.ex
 exact ⟨h.own, pp, cp, pr, cr, (m.block jb (heap_lt h1) (hs jb (heap_lt h1) h.own)).trans h1, h2.mod m (fun k hk h => hs k hk h.1), h3.mod m (fun k hk h => hs k hk h.1)⟩
theorem IsJ.modNil {S : Nat → Prop} {w w' : World} {jb tb db : Nat} {s : JS} (h : IsJ S w jb tb db s) (m : Mod nil w w') : IsJ S w' jb tb db s := h.mod m (fun _ _ _ f => f)
theorem IsJ.mono {S T : Nat → Prop} {w : World} {jb tb db : Nat} {s : JS} (h : IsJ S w jb tb db s) (hs : ∀ k, k < w.heap.size → S k → T k) : IsJ T w jb tb db s := by
 obtain ⟨pp, cp, pr, cr, h1, h2, h3⟩ := h.ex
 exact ⟨hs jb (heap_lt h1) h.own, pp, cp, pr, cr, h1, h2.mono (fun k hk h => ⟨hs k hk h.1, h.2⟩), h3.mono (fun k hk h => ⟨hs k hk h.1, h.2⟩)⟩
theorem IsJ.lt {S : Nat → Prop} {w : World} {jb tb db : Nat} {s : JS} (h : IsJ S w jb tb db s) : jb < w.heap.size := by
 obtain ⟨pp, cp, pr, cr, h1, h2, h3⟩ := h.ex
 exact heap_lt h1
theorem jSize (jb db bl bm : Nat) (C : Nat → Prop) (d : DS) (w : World) (hc : w.cell? ⟨jb, 1, none⟩ = some (.pointer (some ⟨db, 0, none⟩))) (hd : IsDisk w db bl bm C d) :
  Calls Tryz.prog 83 #[.pointer (some ⟨jb, 0, none⟩)] w fun e w' => e = .returned (.int .i64 (d.lasts.length / 2 : Nat)) ∧ w = w' := by
 have hlen := diskLen db bl bm C d w hd
 obtain ⟨N, hN⟩ : ∃ N, d.lasts.length = N := ⟨_, rfl⟩
 obtain ⟨M, hM⟩ : ∃ M, N / 2 = M := ⟨_, rfl⟩
 have hNb : N ≤ 8192 := by have := hd.room; omega
 rw [hN] at hlen ⊢
 rw [hM]
 have m1 : (N : Int) / 2 = (M : Int) := by omega
 have HD := Lib.hid hlen
 clear hd hN hM hlen
 go_enter Tryz.func83, Tryz.ntmps83
 go_wp2_with fail
 refine HD.out.mono ?_
 rintro e w' ⟨rfl, rfl⟩
 go_wp2_with fail
 go_ret
 exact ⟨rfl, rfl⟩
theorem jRoom (S : Nat → Prop) (jb tb db bl bm : Nat) (C : Nat → Prop) (d : DS) (s : JS) (w : World) (hj : IsJ S w jb tb db s) (hd : IsDisk w db bl bm C d) (ha : s.at_ ≤ 1000000) :
  Calls Tryz.prog 66 #[.pointer (some ⟨jb, 0, none⟩)] w fun e w' => e = .returned (.int .i64 ((d.lasts.length / 2 : Nat) - (s.at_ : Int))) ∧ ∃ n, w' = w.drewN n := by
 obtain ⟨pp, cp, pr, cr, h1, h2, h3⟩ := hj.ex
 have c1 := cell_of h1 1
 have c8 := cell_of h1 8
 simp only [List.getElem?_toArray, List.getElem?_cons_zero, List.getElem?_cons_succ] at c1 c8
 obtain ⟨N, hN⟩ : ∃ N, d.lasts.length / 2 = N := ⟨_, rfl⟩
 have hNb : N ≤ 4096 := by have := hd.room; omega
 have HSZ : Hid (∀ n, Calls Tryz.prog 83 #[.pointer (some ⟨jb, 0, none⟩)] (w.drewN n) fun e w' => e = .returned (.int .i64 N) ∧ w' = w.drewN n) := Lib.hid (fun n => by
  rw [← hN]
  exact (jSize jb db bl bm C d (w.drewN n) c1 (hd.modNil ((Mod.refl nil w).drewN n))).mono (fun _ _ ⟨h1, h2⟩ => ⟨h1, h2.symm⟩))
 obtain ⟨A, hA⟩ : ∃ A, s.at_ = A := ⟨_, rfl⟩
 rw [hA] at c8 ha ⊢
 rw [hN]
 have hw : IntKind.i64.wrap ((N : Int) - (A : Int)) = (N : Int) - (A : Int) := by rw [IntKind.wrap_i64]; omega
 clear h1 h2 h3 hd hN hA hj
 go_enter Tryz.func66, Tryz.ntmps66
 go_wp2_with fail
 go_quiet (first | (go_at_call 83; exact Calls.quiet_of_same (HSZ.out _)))
 go_wp2_with fail
 go_ret
 exact ⟨rfl, _, rfl⟩
theorem read_ok (d : DS) (i : Nat) (hd : d.down = false) (hi : i < d.lasts.length) : (d.read (i : Int)).2 = 0 := by
 unfold DS.read DS.sector
 rw [hd]
 simp only [Bool.false_eq_true, ↓reduceIte]
 rw [if_neg (by omega)]
 split <;> rfl
/-- the bytes of the first so many sectors from one on -/
def sectorsAt (d : DS) (base : Nat) : Nat → List UInt8
 | 0 => []
 | i + 1 => sectorsAt d base i ++ (d.read ((base + i : Nat) : Int)).1
theorem sectorsAt_length (d : DS) (base : Nat) (n : Nat) (h : ∀ i, i < n → (d.read ((base + i : Nat) : Int)).1.length = 64) : (sectorsAt d base n).length = 64 * n := by
 induction n with
 | zero => rfl
 | succ n ih => rw [sectorsAt, List.length_append, ih (fun i hi => h i (by omega)), h n (by omega)]; omega
theorem read_64 (w : World) (db bl bm : Nat) (C : Nat → Prop) (d : DS) (h : IsDisk w db bl bm C d) (i : Nat) (hd : d.down = false) (hi : i < d.lasts.length) : (d.read (i : Int)).1.length = 64 := by
  unfold DS.read DS.sector
  rw [hd]
  simp only [Bool.false_eq_true, ↓reduceIte]
  rw [if_neg (by omega)]
  split
  · rename_i p hp
    have hm := List.mem_of_find?_eq_some hp
    obtain ⟨vm, _, h2⟩ := h.pend
    obtain ⟨j, hj, rfl⟩ := List.getElem_of_mem hm
    exact (h2.2 j (by rw [h2.1]; exact hj) hj).2.2
  · obtain ⟨vl, _, h2, h3⟩ := h.lasts
    have := (h3 i (by omega) hi).2
    simp only [Int.toNat_natCast]
    rw [List.getD_eq_getElem?_getD, List.getElem?_eq_getElem hi]
    exact this
end Go.Proofs.YtdfahddpkkeldaaGreat

/- Package journal: read. -/
namespace Go.Proofs.YtdfahddpkkeldaaGreat
open Go.RowKit
set_option maxRecDepth 100000 in
set_option maxHeartbeats 1000000 in
theorem jRead (jb db bl bm half : Nat) (C : Nat → Prop) (d : DS) (w : World) (hc : w.cell? ⟨jb, 1, none⟩ = some (.pointer (some ⟨db, 0, none⟩))) (hd : IsDisk w db bl bm C d) (hh : half ≤ 1) (hdn : d.down = false) :
  Calls Tryz.prog 55 #[.pointer (some ⟨jb, 0, none⟩), .int .i64 half] w fun e w' => ∃ v, e = .returned v ∧ IsVec (fun k => w.heap.size ≤ k) w' 5 1 v (64 * (d.lasts.length / 2)) (bys (sectorsAt d (half * (d.lasts.length / 2)) (d.lasts.length / 2))) ∧ Mod nil w w' := by
 refine (?_ : ∀ Post : Ending → World → Prop, Hid (∀ e w', (∃ v, e = .returned v ∧ IsVec (fun k => w.heap.size ≤ k) w' 5 1 v (64 * (d.lasts.length / 2)) (bys (sectorsAt d (half * (d.lasts.length / 2)) (d.lasts.length / 2))) ∧ Mod nil w w') → Post e w') → Calls Tryz.prog 55 #[.pointer (some ⟨jb, 0, none⟩), .int .i64 half] w Post) _ (Lib.hid (fun _ _ h => h))
 intro Post HPOST
 obtain ⟨N, hN⟩ : ∃ N, d.lasts.length / 2 = N := ⟨_, rfl⟩
 have hNb : N ≤ 4096 := by have := hd.room; omega
 obtain ⟨X, hX⟩ : ∃ X, half * N = X := ⟨_, rfl⟩
 have hXb : X ≤ 4096 := by
  rcases (show half = 0 ∨ half = 1 by omega) with rfl | rfl <;> omega
 have hXN : X + N ≤ d.lasts.length := by
  rcases (show half = 0 ∨ half = 1 by omega) with rfl | rfl <;> omega
 rw [hN, hX] at HPOST
 have hXm : IntKind.i64.wrap ((half : Int) * (N : Int)) = (X : Int) := by
  rw [show (half : Int) * (N : Int) = ((half * N : Nat) : Int) by simp, hX, IntKind.wrap_i64]; omega
 have HSZ : Hid (∀ W, Mod nil w W → Calls Tryz.prog 83 #[.pointer (some ⟨jb, 0, none⟩)] W fun e w' => e = .returned (.int .i64 N) ∧ W = w') := Lib.hid (fun W m => by
  rw [← hN]
  exact jSize jb db bl bm C d W (cell_kept hc m (World.block_lt_of_cell? _ _ hc) (not_nil _)) (hd.modNil m))
 have HLEN : Hid (∀ i, i < N → (d.read ((X + i : Nat) : Int)).1.length = 64) := Lib.hid (fun i hi => read_64 w db bl bm C d hd (X + i) hdn (by omega))
 have HRD : Hid (∀ W i, Mod nil w W → i < N → Calls Tryz.prog 84 #[.pointer (some ⟨db, 0, none⟩), .int .i64 ((X : Int) + (i : Int))] W fun e w' => ∃ p c, e = .returned (.tuple #[.slice p 64 c, .int .i64 0]) ∧ IsVec (fun k => W.heap.size ≤ k) w' 5 1 (.slice p 64 c) 64 (bys (d.read ((X + i : Nat) : Int)).1) ∧ Mod nil W w') := Lib.hid (fun W i m hi => by
  have h := diskRead db bl bm C d ((X + i : Nat) : Int) W (hd.modNil m)
  rw [read_ok d (X + i) hdn (by omega), HLEN.out i hi] at h
  rw [show ((X : Int) + (i : Int)) = ((X + i : Nat) : Int) by simp]
  refine h.mono ?_
  rintro e w' ⟨v, rfl, hv, hm⟩
  obtain ⟨p, c, rfl⟩ := hv.form
  exact ⟨p, c, rfl, hv, hm⟩)
 have HC := Lib.hid hc
 clear hd hdn hN hX hh hXN hc
 obtain ⟨B, hB⟩ : ∃ B, w.heap.size = B := ⟨_, rfl⟩
 have HB := Lib.hid hB
 clear hB
 go_enter Tryz.func55, Tryz.ntmps55
 go_wp2_with fail
 refine (HSZ.out w (Mod.refl _ _)).mono ?_
 rintro e w' ⟨rfl, rfl⟩
 go_wp2_with fail
 go_loopw [5, 11] (fun v5 v11 wr => ∃ (i k : Nat) (q : Option Addr) (c : Nat), i ≤ N ∧ v11 = .int .i64 i ∧ v5 = .slice q k c ∧ k ≤ 262144 ∧ Hid (k = 64 * i) ∧ Hid (IsVec (fun k => B ≤ k) wr 5 1 (.slice q k c) k (bys (sectorsAt d X i))) ∧ Hid (Mod nil w wr)) (fun _ v _ => N - (intOf v).toNat)
 case atStart => exact ⟨0, 0, none, 0, by omega, rfl, rfl, by omega, Lib.hid rfl, Lib.hid (IsVec.nil _ _ _ _), Lib.hid (Mod.refl _ _)⟩
 case round =>
  obtain ⟨i, k, q, c, hi, rfl, rfl, hk, HK, HVR, HMR⟩ := hrel
  by_cases hlt : i < N
  ·have c1 := cell_kept HC.out HMR.out (World.block_lt_of_cell? _ _ HC.out) (not_nil _)
   have hlk : (sectorsAt d X i).length = k := by rw [sectorsAt_length d X i (fun j hj => HLEN.out j (by omega)), HK.out]
   have hXi : IntKind.i64.wrap ((X : Int) + (i : Int)) = (X : Int) + (i : Int) := by rw [IntKind.wrap_i64]; omega
   have HLK := Lib.hid hlk
   have hc1l := World.block_lt_of_cell? _ _ c1
   clear hlk
   go_upto_region 5 with (fail)
   go_region_held3 (fun w' => w'.cell? ⟨jb, 1, none⟩ = some (.pointer (some ⟨db, 0, none⟩))) (first | exact c1 | exact c1q) (first
    | (go_at_call 84; refine (HRD.out _ i ?_ hlt).mono ?_; exact HMR.out.thenNil (by (repeat (refine Mod.drew ?_)); exact Mod.refl nil wr); rintro e wq ⟨pq, cq, rfl, hvq, hmq⟩; have hmq' := (by (repeat (refine Mod.drew ?_)); exact Mod.refl nil wr : Mod nil wr _).thenNil hmq; have c1q := cell_kept c1 hmq' hc1l (not_nil _))
    | (go_at_call 83; refine (HSZ.out _ ?_).mono ?_; exact HMR.out.thenNil (by (repeat (refine Mod.drew ?_)); exact Mod.refl nil wr); rintro e w' ⟨rfl, rfl⟩))
   obtain ⟨v7, w7, hrun, hv7, hm7⟩ := bytes_append (l := sectorsAt d X i) (m := (d.read ((X + i : Nat) : Int)).1) 40 (by rw [HLK.out]; exact HVR.out.modNil hmq') hvq.row (by rw [HLK.out, HLEN.out i hlt]; omega)
   have hl7 : (sectorsAt d X i ++ (d.read ((X + i : Nat) : Int)).1).length = k + 64 := by rw [List.length_append, HLK.out, HLEN.out i hlt]
   rw [hl7] at hv7
   obtain ⟨p7, c7, rfl⟩ := hv7.form
   have hsz := hmq'.size
   have HRUN := Lib.hid hrun
   have HV7 : Hid (IsVec (fun k => B ≤ k) w7 5 1 (.slice p7 (k + 64) c7) (k + 64) (bys (sectorsAt d X (i + 1)))) := Lib.hid (hv7.mono (fun j _ h => h.elim id (fun h => by have := HMR.out.size; have := HB.out; omega)))
   have HM7 : Hid (Mod nil w w7) := Lib.hid ((HMR.out.thenNil hmq').new hm7 (fun j h => by have := HB.out; omega))
   clear hrun hv7 hm7 hl7 hvq hmq hmq' c1 c1q
   go_wp2_with (first | (at_builtin; refine wpList_append_run rfl _ _ _ _ rfl rfl rfl HRUN.out ?_))
   exact ⟨⟨i + 1, k + 64, p7, c7, by omega, by go_num, rfl, by have := HK.out; omega, Lib.hid (by have := HK.out; omega), HV7, HM7⟩, by simp [intOf]; omega⟩
  ·obtain rfl : i = N := by omega
   obtain rfl : k = 64 * i := HK.out
   have HEND : Hid (Post (.returned (.slice q (64 * i) c)) wr) := Lib.hid (HPOST.out _ _ ⟨_, rfl, HVR.out.mono (fun k _ h => by have := HB.out; omega), HMR.out⟩)
   clear HVR HMR HK
   go_wp2_with fail
   exact HEND.out
end Go.Proofs.YtdfahddpkkeldaaGreat

/- Package journal: Picture, Records. -/
namespace Go.Proofs.YtdfahddpkkeldaaGreat
open Go.RowKit
set_option maxHeartbeats 1000000 in
theorem jPicture (S : Nat → Prop) (jb tb db : Nat) (s : JS) (w : World) (hj : IsJ S w jb tb db s) (hl : s.pict.length ≤ 60000) :
  Calls Tryz.prog 30 #[.pointer (some ⟨jb, 0, none⟩)] w fun e w' => ∃ p c, e = .returned (.tuple #[.slice p s.pict.length c, .bool s.has]) ∧ IsVec (fun k => w.heap.size ≤ k) w' 5 1 (.slice p s.pict.length c) s.pict.length (bys s.pict) ∧ Mod nil w w' := by
 refine (?_ : ∀ Post : Ending → World → Prop, Hid (∀ e w', (∃ p c, e = .returned (.tuple #[.slice p s.pict.length c, .bool s.has]) ∧ IsVec (fun k => w.heap.size ≤ k) w' 5 1 (.slice p s.pict.length c) s.pict.length (bys s.pict) ∧ Mod nil w w') → Post e w') → Calls Tryz.prog 30 #[.pointer (some ⟨jb, 0, none⟩)] w Post) _ (Lib.hid (fun _ _ h => h))
 intro Post HPOST
 obtain ⟨pp, cp, pr, cr, h1, h2, h3⟩ := hj.ex
 have c5 := cell_of h1 5
 have c6 := cell_of h1 6
 have hjl := heap_lt h1
 simp only [List.getElem?_toArray, List.getElem?_cons_zero, List.getElem?_cons_succ] at c5 c6
 have HCL : Hid (∀ W, Mod nil w W → Calls Tryz.prog 50 #[.slice pp s.pict.length cp] W fun e w' => ∃ p c, e = .returned (.slice p s.pict.length c) ∧ Hid (IsVec (fun k => w.heap.size ≤ k) w' 5 1 (.slice p s.pict.length c) s.pict.length (bys s.pict)) ∧ Mod nil W w') := Lib.hid (fun W m => by
  refine (bytesClone _ _ _ W (h2.modNil m) (by omega)).mono ?_
  rintro e w' ⟨v, rfl, hv, hm⟩
  obtain ⟨p, c, rfl⟩ := hv.form
  exact ⟨p, c, rfl, Lib.hid (hv.mono (fun k _ h => Nat.le_trans m.size h)), hm⟩)
 obtain ⟨n, hn⟩ : ∃ n, s.pict.length = n := ⟨_, rfl⟩
 obtain ⟨ha, hha⟩ : ∃ ha, s.has = ha := ⟨_, rfl⟩
 rw [hn] at HCL HPOST c6
 rw [hha] at HPOST c5
 clear h1 h2 h3 hj hn hl hha
 go_enter Tryz.func30, Tryz.ntmps30
 go_wp2_with fail
 go_region_held3 (fun w' => w'.cell? ⟨jb, 5, none⟩ = some (.bool ha) ∧ w'.cell? ⟨jb, 6, none⟩ = some (.slice pp n cp)) (first | exact ⟨c5, c6⟩ | exact ⟨d5, d6⟩) (first
  | (go_at_call 50; refine (HCL.out _ ?_).mono ?_; (repeat (first | exact Mod.refl _ _ | refine Mod.drew ?_)); rintro e wq ⟨pq, cq, rfl, hvq, hmq⟩; have hmq' := (by (repeat (refine Mod.drew ?_)); exact Mod.refl nil w : Mod nil w _).thenNil hmq; have d5 := cell_kept c5 hmq' hjl (not_nil _); have d6 := cell_kept c6 hmq' hjl (not_nil _)))
 have HE := Lib.hid (HPOST.out _ _ ⟨pq, cq, rfl, hvq.out, hmq'⟩)
 clear hmq' hmq
 go_wp2_with fail
 exact HE.out
set_option maxRecDepth 100000 in
set_option maxHeartbeats 1000000 in
theorem jRecords (S : Nat → Prop) (jb tb db : Nat) (s : JS) (w : World) (hj : IsJ S w jb tb db s) (hl : ∀ r ∈ s.recs, r.length ≤ 60000) (hn : s.recs.length ≤ 100000) :
  Calls Tryz.prog 31 #[.pointer (some ⟨jb, 0, none⟩)] w fun e w' => ∃ v, e = .returned v ∧ IsTextsC (fun k => w.heap.size ≤ k) w' v s.recs.length s.recs ∧ Mod nil w w' := by
 refine (?_ : ∀ Post : Ending → World → Prop, Hid (∀ e w', (∃ v, e = .returned v ∧ IsTextsC (fun k => w.heap.size ≤ k) w' v s.recs.length s.recs ∧ Mod nil w w') → Post e w') → Calls Tryz.prog 31 #[.pointer (some ⟨jb, 0, none⟩)] w Post) _ (Lib.hid (fun _ _ h => h))
 intro Post HPOST
 obtain ⟨pp, cp, pr, cr, h1, h2, h3⟩ := hj.ex
 have c7 := cell_of h1 7
 simp only [List.getElem?_toArray, List.getElem?_cons_zero, List.getElem?_cons_succ] at c7
 obtain ⟨l, hrl⟩ : ∃ l, s.recs = l := ⟨_, rfl⟩
 obtain ⟨n, hnn⟩ : ∃ n, l.length = n := ⟨_, rfl⟩
 rw [hrl] at HPOST c7 h3 hl hn
 rw [hnn] at HPOST c7 h3 hn
 have HR := Lib.hid h3
 have HL := Lib.hid hl
 have HN := Lib.hid hnn
 obtain ⟨B, hB⟩ : ∃ B, w.heap.size = B := ⟨_, rfl⟩
 rw [hB] at HPOST
 have HB := Lib.hid hB
 clear h1 h2 h3 hj hl hrl hnn hB
 go_enter Tryz.func31, Tryz.ntmps31
 go_wp2_with fail
 go_loopw [3, 11] (fun v3 v11 wr => ∃ (i : Nat) (q : Option Addr) (c : Nat), i ≤ n ∧ v11 = .int .i64 i ∧ v3 = .slice q i c ∧ Hid (IsTextsC (fun k => B ≤ k) wr (.slice q i c) i (l.take i)) ∧ Hid (Mod nil w wr)) (fun _ v _ => n - (intOf v).toNat)
 case atStart => exact ⟨0, none, 0, by omega, rfl, rfl, Lib.hid (IsTextsC.nil _ _), Lib.hid (Mod.refl _ _)⟩
 case round =>
  obtain ⟨i, q, c, hi, rfl, rfl, HV, HM⟩ := hrel
  by_cases hlt : i < n
  ·obtain ⟨g, x, rfl, hg, hx, hrow⟩ := (HR.out.modNil HM.out).at i hlt
   obtain ⟨t, ht⟩ : ∃ t, l.getD i [] = t := ⟨_, rfl⟩
   rw [ht] at hrow
   have htl : t.length ≤ 60000 := by
    rw [← ht, List.getD_eq_getElem?_getD, List.getElem?_eq_getElem (by rw [HN.out]; exact hlt)]
    exact HL.out _ (List.getElem_mem _)
   have HROW := Lib.hid hrow
   have HT : Hid (l.take (i + 1) = l.take i ++ [t]) := Lib.hid (by
    rw [← ht, List.take_succ_eq_append_getElem (by rw [HN.out]; exact hlt), List.getD_eq_getElem?_getD, List.getElem?_eq_getElem (by rw [HN.out]; exact hlt)]; rfl)
   clear hrow ht
   go_wp2_with fail
   refine (bytesClone _ _ _ wr HROW.out (by omega)).mono ?_
   rintro e w1 ⟨v1, rfl, hv1, hm1⟩
   obtain ⟨p1, c1, rfl⟩ := hv1.form
   have HV1 := Lib.hid hv1
   have HM1 := Lib.hid hm1
   have hs1 := hm1.size
   have hs2 := HM.out.size
   obtain ⟨g2, hg2⟩ : ∃ g2, w1.heap.size = g2 := ⟨_, rfl⟩
   have hown : ∀ k, wr.heap.size ≤ k → B ≤ k ∧ ¬ (Value.slice q i c).ownBlock = some k := fun k hk => ⟨by have := HB.out; omega, fun ho => by have := (HV.out.own ho).2; omega⟩
   obtain ⟨v8, w8, hrun8, hv8, hm8, ho8⟩ := textsC_append (g := g2) 85 (HV.out.modNil HM1.out) HV1.out.row HV1.out.capOk hown hg2 (by omega)
   obtain ⟨p8, c8, rfl⟩ := hv8.form
   have HRUN := Lib.hid hrun8
   have HV8 : Hid (IsTextsC (fun k => B ≤ k) w8 (.slice p8 (i + 1) c8) (i + 1) (l.take (i + 1))) := Lib.hid (by
    rw [HT.out]
    exact hv8.mono (fun k _ h => h.elim id (fun h => by have := HB.out; omega)))
   have HM8 : Hid (Mod nil w w8) := Lib.hid ((HM.out.thenNil HM1.out).new hm8 (fun k ho => by have := (HV.out.own ho).1; have := HB.out; omega))
   clear hv1 hm1 hrun8 hv8 hm8 ho8 hown hs1 hs2
   go_wp2_with (first | (at_builtin; refine wpList_append_run rfl _ _ _ _ rfl rfl rfl HRUN.out ?_))
   exact ⟨⟨i + 1, p8, c8, by omega, by go_num, rfl, HV8, HM8⟩, by simp [intOf]; omega⟩
  ·obtain rfl : i = n := by omega
   have HEND : Hid (Post (.returned (.slice q i c)) wr) := Lib.hid (HPOST.out _ _ ⟨_, rfl, by have h := HV.out; rw [List.take_of_length_le (by rw [HN.out]; exact Nat.le_refl _)] at h; exact h, HM.out⟩)
   clear HV HM
   go_wp2_with fail
   exact HEND.out
end Go.Proofs.YtdfahddpkkeldaaGreat

/- Package journal: takes. -/
namespace Go.Proofs.YtdfahddpkkeldaaGreat
open Go.RowKit
/-- the journal behind a look at a half's bytes -/
def JS.takes (s : JS) (half : Nat) (b : List UInt8) : JS :=
 match getF b with
 | none => s
 | some (k, g, q, body) => if k = 1 ∧ q = 0 ∧ ¬ (s.has = true ∧ g ≤ s.gen) then { s with half := half, gen := g, has := true, pict := body, at_ := sectorsF body.length } else s
set_option maxRecDepth 100000 in
set_option maxHeartbeats 16000000 in
theorem jTakes (S T : Nat → Prop) (jb tb db half : Nat) (s : JS) (p : Option Addr) (len cap : Nat) (b : List UInt8) (w : World) (hj : IsJ S w jb tb db s) (ht : IsTab w tb) (hrow : IsRow T w (.slice p len cap) (bys b)) (hT : ∀ k, T k → k < w.heap.size ∧ k ≠ tb) (hS : ¬ S tb) (hcap : len ≤ cap) (hcm : cap ≤ maxLen) :
  Calls Tryz.prog 56 #[.pointer (some ⟨jb, 0, none⟩), .int .i64 half, .slice p len cap] w fun e w' => e = .returned (.tuple #[]) ∧ IsJ (fun k => S k ∨ w.heap.size ≤ k) w' jb tb db (s.takes half b) ∧ IsTab w' tb ∧ Mod (fun k => k = tb ∨ k = jb) w w' := by
 refine (?_ : ∀ Post : Ending → World → Prop, Hid (∀ e w', (e = .returned (.tuple #[]) ∧ IsJ (fun k => S k ∨ w.heap.size ≤ k) w' jb tb db (s.takes half b) ∧ IsTab w' tb ∧ Mod (fun k => k = tb ∨ k = jb) w w') → Post e w') → Calls Tryz.prog 56 #[.pointer (some ⟨jb, 0, none⟩), .int .i64 half, .slice p len cap] w Post) _ (Lib.hid (fun _ _ h => h))
 intro Post HPOST
 obtain ⟨pp, cp, pr, cr, h1, h2, h3⟩ := hj.ex
 have hjt : jb ≠ tb := fun e => hS (e ▸ hj.own)
 have hjl := heap_lt h1
 have c0 := cell_of h1 0
 simp only [List.getElem?_toArray, List.getElem?_cons_zero] at c0
 have HJ := Lib.hid hj
 have HB := Lib.hid h1
 have HP := Lib.hid h2
 have HR := Lib.hid h3
 clear h1 h2 h3 hj
 go_enter Tryz.func56, Tryz.ntmps56
 go_wp2_with fail
 refine (frameGet tb T p len cap b w ht hrow hT hcap hcm).mono ?_
 rintro e w1 ⟨ht1, hm1, ⟨hnone, rfl⟩ | ⟨kind, gen, seq, body, q, c, hsome, rfl, hv⟩⟩
 ·have hs : s.takes half b = s := by unfold JS.takes; rw [hnone]
  have HS := Lib.hid hs
  have HT1 := Lib.hid ht1
  have HM1 := Lib.hid hm1
  clear c0 hs ht1 hm1 hnone hrow hT ht
  go_upto_region 1 with (fail)
  generalize hw2 : World.alloc w1 _ = w2
  have hm2 : Mod nil w1 w2 := by rw [← hw2]; exact (Mod.refl _ _).alloc _
  have HM2 : Hid (Mod (· = tb) w w2) := Lib.hid (HM1.out.thenNil hm2)
  have HT2 : Hid (IsTab w2 tb) := Lib.hid (HT1.out.mod hm2 (not_nil _))
  clear hw2 hm2
  have HEND : Hid (∀ n, Post (.returned (.tuple #[])) (w2.drewN n)) := Lib.hid (fun n => HPOST.out _ _ ⟨rfl, by rw [HS.out]; exact (HJ.out.mod (HM2.out.drewN n) (fun k _ h e => hS (e ▸ h))).mono (fun _ _ h => .inl h), HT2.out.mod ((Mod.refl nil w2).drewN n) (not_nil _), (HM2.out.drewN n).mono (fun _ _ h => .inl h)⟩)
  go_quiet (fail)
  go_wp2_with fail
  go_end0
  exact HEND.out _
 ·have HSOME := Lib.hid hsome
  have hm2' : Mod nil w1 w1 := Mod.refl _ _
  obtain ⟨F, hF⟩ : ∃ F, w1.heap.size = F := ⟨_, rfl⟩
  have hb1 := (hm1.block jb hjl hjt).trans HB.out
  have hFj : ¬ F = jb := by have := heap_lt hb1; omega
  have hjF : jb < F := by have := heap_lt hb1; omega
  go_upto_region 1 with (fail)
  (try rw [hF])
  generalize hw2 : World.alloc w1 _ = w2
  have hm2 : Mod nil w1 w2 := by rw [← hw2]; exact (Mod.refl _ _).alloc _
  have hf2 : w2.heap[F]? = some (.cells #[.int .i64 kind, .int .i64 gen, .int .i64 seq, .slice q body.length c] 122 (0, 0)) := by rw [← hw2, ← hF]; exact heap_alloc_new _ _
  have hb2 := hm2.keep hb1
  have r0 := cell_of hf2 0
  have r1 := cell_of hf2 1
  have r2 := cell_of hf2 2
  have j4 := cell_of hb2 4
  have j5 := cell_of hb2 5
  simp only [List.getElem?_toArray, List.getElem?_cons_zero, List.getElem?_cons_succ] at r0 r1 r2 j4 j5
  have HB2 := Lib.hid hb2
  have HF2 := Lib.hid hf2
  have HM2 : Hid (Mod (· = tb) w w2) := Lib.hid (hm1.thenNil hm2)
  have HT2 : Hid (IsTab w2 tb) := Lib.hid (ht1.mod hm2 (not_nil _))
  have HV2 : Hid (IsVec (fun k => w.heap.size ≤ k) w2 5 1 (.slice q body.length c) body.length (bys body)) := Lib.hid (hv.modNil hm2)
  have hsc : ((sectorsF body.length : Nat) : Int) = ((sectorsF body.length : Nat) : Int) := rfl
  clear hw2 hm2 hf2 hb2 hb1 hF hv ht1 hm1 hsome c0 hm2' hsc hrow hT ht
  by_cases hk : kind = 1
  ·subst hk
   by_cases hq : seq = 0
   ·subst hq
    have q0 : (((0 : Nat) : Int) != 0) = false := rfl
    cases hh : s.has with
    | false =>
     rw [hh] at j5
     have hng : ¬ (s.has = true ∧ gen ≤ s.gen) := fun h => by rw [hh] at h; cases h.1
     have HH := Lib.hid hh
     clear hh q0
     have hs : s.takes half b = { s with half := half, gen := gen, has := true, pict := body, at_ := sectorsF body.length } := by unfold JS.takes; rw [HSOME.out]; exact if_pos ⟨rfl, rfl, hng⟩
     have HS := Lib.hid hs
     obtain ⟨SN, hSN⟩ : ∃ SN, sectorsF body.length = SN := ⟨_, rfl⟩
     rw [hSN]
     have HSN := Lib.hid hSN
     clear hs hSN
     go_quiet (fail)
     generalize hw3 : World.drewN w2 _ = w3
     have hm3 : Mod nil w2 w3 := by rw [← hw3]; exact (Mod.refl _ _).drewN _
     have hb3 := hm3.keep HB2.out
     have hf3 := hm3.keep HF2.out
     have j3 := cell_of hb3 3
     have j4' := cell_of hb3 4
     have j5' := cell_of hb3 5
     have j6 := cell_of hb3 6
     have j8 := cell_of hb3 8
     have r1' := cell_of hf3 1
     have r3' := cell_of hf3 3
     simp only [List.getElem?_toArray, List.getElem?_cons_zero, List.getElem?_cons_succ] at j3 j4' j5' j6 j8 r1' r3'
     have y3 := free_of hb3 3
     have y4 := free_of hb3 4
     have y5 := free_of hb3 5
     have y6 := free_of hb3 6
     have y8 := free_of hb3 8
     have hfl := heap_lt hf3
     have HM3 := Lib.hid hm3
     have HB3 := Lib.hid hb3
     clear hw3 hm3 hb3 hf3 r0 r1 r2 j4 j5
     go_upto_region 2 with (fail)
     go_region_held3 (fun w' => w'.cell? ⟨F, 1, none⟩ = some (.int .i64 gen) ∧ w'.cell? ⟨F, 3, none⟩ = some (.slice q body.length c)) (exact ⟨cell_kept r1' (show Mod (· = jb) w3 _ from by repeat (first | exact Mod.refl _ _ | refine Mod.drew ?_ | refine Mod.setCell ?_ _ _ (fun _ => rfl))) hfl hFj, cell_kept r3' (show Mod (· = jb) w3 _ from by repeat (first | exact Mod.refl _ _ | refine Mod.drew ?_ | refine Mod.setCell ?_ _ _ (fun _ => rfl))) hfl hFj⟩) (fail)
     have g1 := heap_setCell_same HB3.out (.int .i64 half) (off := 3)
     simp only [List.setIfInBounds_toArray, List.set_cons_succ, List.set_cons_zero] at g1
     have g2 := heap_setCell_same g1 (.int .i64 gen) (off := 4)
     simp only [List.setIfInBounds_toArray, List.set_cons_succ, List.set_cons_zero] at g2
     have g3 := heap_setCell_same g2 (.bool true) (off := 5)
     simp only [List.setIfInBounds_toArray, List.set_cons_succ, List.set_cons_zero] at g3
     have g4 := heap_setCell_same g3 (.slice q body.length c) (off := 6)
     simp only [List.setIfInBounds_toArray, List.set_cons_succ, List.set_cons_zero] at g4
     have g5 := heap_setCell_same g4 (.int .i64 SN) (off := 8)
     simp only [List.setIfInBounds_toArray, List.set_cons_succ, List.set_cons_zero] at g5
     have hmj : Mod (· = jb) w3 (((((w3.setCell ⟨jb, 3, none⟩ (.int .i64 half)).setCell ⟨jb, 4, none⟩ (.int .i64 gen)).setCell ⟨jb, 5, none⟩ (.bool true)).setCell ⟨jb, 6, none⟩ (.slice q body.length c)).setCell ⟨jb, 8, none⟩ (.int .i64 SN)) := (((((Mod.refl (· = jb) w3).setCell _ _ (fun _ => rfl)).setCell _ _ (fun _ => rfl)).setCell _ _ (fun _ => rfl)).setCell _ _ (fun _ => rfl)).setCell _ _ (fun _ => rfl)
     clear g1 g2 g3 g4
     go_wp2_with fail
     go_end0
     generalize World.setCell (World.setCell (World.setCell (World.setCell (World.setCell w3 _ _) _ _) _ _) _ _) _ _ = w4 at *
     have hm4 : Mod (fun k => k = tb ∨ k = jb) w w4 := ((HM2.out.thenNil HM3.out).mono (fun _ _ h => .inl h)).trans hmj (fun _ _ h => .inr h)
     have hv4 := (HV2.out.modNil HM3.out).mod hmj (fun k hk h1 h2 => by omega)
     refine HPOST.out _ _ ⟨rfl, ?_, ((HT2.out.mod HM3.out (not_nil _)).mod hmj (fun e => hjt e.symm)).mod (Mod.refl nil w4).drew (not_nil _), hm4.drew⟩
     rw [HS.out, HSN.out]
     refine ⟨.inl HJ.out.own, q, c, pr, cr, ?_, ?_, ?_⟩
     ·exact g5
     ·exact (hv4.row.mono (fun k hk h => ⟨.inr h, by omega, fun ho => by have := (HR.out.own ho).2; omega⟩)).modNil (Mod.refl nil w4).drew
     ·exact (HR.out.mod hm4 (fun k _ h e => by rcases e with e | e; exact hS (e ▸ h.1); exact h.2 e)).mono (fun k _ h => ⟨.inl h.1, h.2⟩) |>.modNil (Mod.refl nil w4).drew
    | true =>
     rw [hh] at j5
     have HH := Lib.hid hh
     clear hh q0
     by_cases hg : gen ≤ s.gen
     ·obtain ⟨GG, hGG⟩ : ∃ GG, s.gen = GG := ⟨_, rfl⟩
      rw [hGG] at j4 hg
      have g1 : decide ((gen : Int) ≤ (GG : Int)) = true := by simp; omega
      have HGG := Lib.hid hGG
      clear hGG
      have hs : s.takes half b = s := by unfold JS.takes; rw [HSOME.out]; exact if_neg (fun h => h.2.2 ⟨HH.out, by have := HGG.out; omega⟩)
      have HS := Lib.hid hs
      clear hs
      have HEND : Hid (∀ n, Post (.returned (.tuple #[])) (w2.drewN n)) := Lib.hid (fun n => HPOST.out _ _ ⟨rfl, by rw [HS.out]; exact (HJ.out.mod (HM2.out.drewN n) (fun k _ h e => hS (e ▸ h))).mono (fun _ _ h => .inl h), HT2.out.mod ((Mod.refl nil w2).drewN n) (not_nil _), (HM2.out.drewN n).mono (fun _ _ h => .inl h)⟩)
      go_quiet (fail)
      go_wp2_with fail
      go_end0
      exact HEND.out _
     ·have hng : ¬ (s.has = true ∧ gen ≤ s.gen) := fun h => hg h.2
      obtain ⟨GG, hGG⟩ : ∃ GG, s.gen = GG := ⟨_, rfl⟩
      rw [hGG] at j4 hg
      have g1' : decide ((gen : Int) ≤ (GG : Int)) = false := by simp; omega
      have HGG := Lib.hid hGG
      clear hGG
      have hs : s.takes half b = { s with half := half, gen := gen, has := true, pict := body, at_ := sectorsF body.length } := by unfold JS.takes; rw [HSOME.out]; exact if_pos ⟨rfl, rfl, hng⟩
      have HS := Lib.hid hs
      obtain ⟨SN, hSN⟩ : ∃ SN, sectorsF body.length = SN := ⟨_, rfl⟩
      rw [hSN]
      have HSN := Lib.hid hSN
      clear hs hSN
      go_quiet (fail)
      generalize hw3 : World.drewN w2 _ = w3
      have hm3 : Mod nil w2 w3 := by rw [← hw3]; exact (Mod.refl _ _).drewN _
      have hb3 := hm3.keep HB2.out
      have hf3 := hm3.keep HF2.out
      have j3 := cell_of hb3 3
      have j4' := cell_of hb3 4
      have j5' := cell_of hb3 5
      have j6 := cell_of hb3 6
      have j8 := cell_of hb3 8
      have r1' := cell_of hf3 1
      have r3' := cell_of hf3 3
      simp only [List.getElem?_toArray, List.getElem?_cons_zero, List.getElem?_cons_succ] at j3 j4' j5' j6 j8 r1' r3'
      have y3 := free_of hb3 3
      have y4 := free_of hb3 4
      have y5 := free_of hb3 5
      have y6 := free_of hb3 6
      have y8 := free_of hb3 8
      have hfl := heap_lt hf3
      have HM3 := Lib.hid hm3
      have HB3 := Lib.hid hb3
      clear hw3 hm3 hb3 hf3 r0 r1 r2 j4 j5
      go_upto_region 2 with (fail)
      go_region_held3 (fun w' => w'.cell? ⟨F, 1, none⟩ = some (.int .i64 gen) ∧ w'.cell? ⟨F, 3, none⟩ = some (.slice q body.length c)) (exact ⟨cell_kept r1' (show Mod (· = jb) w3 _ from by repeat (first | exact Mod.refl _ _ | refine Mod.drew ?_ | refine Mod.setCell ?_ _ _ (fun _ => rfl))) hfl hFj, cell_kept r3' (show Mod (· = jb) w3 _ from by repeat (first | exact Mod.refl _ _ | refine Mod.drew ?_ | refine Mod.setCell ?_ _ _ (fun _ => rfl))) hfl hFj⟩) (fail)
      have g1 := heap_setCell_same HB3.out (.int .i64 half) (off := 3)
      simp only [List.setIfInBounds_toArray, List.set_cons_succ, List.set_cons_zero] at g1
      have g2 := heap_setCell_same g1 (.int .i64 gen) (off := 4)
      simp only [List.setIfInBounds_toArray, List.set_cons_succ, List.set_cons_zero] at g2
      have g3 := heap_setCell_same g2 (.bool true) (off := 5)
      simp only [List.setIfInBounds_toArray, List.set_cons_succ, List.set_cons_zero] at g3
      have g4 := heap_setCell_same g3 (.slice q body.length c) (off := 6)
      simp only [List.setIfInBounds_toArray, List.set_cons_succ, List.set_cons_zero] at g4
      have g5 := heap_setCell_same g4 (.int .i64 SN) (off := 8)
      simp only [List.setIfInBounds_toArray, List.set_cons_succ, List.set_cons_zero] at g5
      have hmj : Mod (· = jb) w3 (((((w3.setCell ⟨jb, 3, none⟩ (.int .i64 half)).setCell ⟨jb, 4, none⟩ (.int .i64 gen)).setCell ⟨jb, 5, none⟩ (.bool true)).setCell ⟨jb, 6, none⟩ (.slice q body.length c)).setCell ⟨jb, 8, none⟩ (.int .i64 SN)) := (((((Mod.refl (· = jb) w3).setCell _ _ (fun _ => rfl)).setCell _ _ (fun _ => rfl)).setCell _ _ (fun _ => rfl)).setCell _ _ (fun _ => rfl)).setCell _ _ (fun _ => rfl)
      clear g1 g2 g3 g4
      go_wp2_with fail
      go_end0
      generalize World.setCell (World.setCell (World.setCell (World.setCell (World.setCell w3 _ _) _ _) _ _) _ _) _ _ = w4 at *
      have hm4 : Mod (fun k => k = tb ∨ k = jb) w w4 := ((HM2.out.thenNil HM3.out).mono (fun _ _ h => .inl h)).trans hmj (fun _ _ h => .inr h)
      have hv4 := (HV2.out.modNil HM3.out).mod hmj (fun k hk h1 h2 => by omega)
      refine HPOST.out _ _ ⟨rfl, ?_, ((HT2.out.mod HM3.out (not_nil _)).mod hmj (fun e => hjt e.symm)).mod (Mod.refl nil w4).drew (not_nil _), hm4.drew⟩
      rw [HS.out, HSN.out]
      refine ⟨.inl HJ.out.own, q, c, pr, cr, ?_, ?_, ?_⟩
      ·exact g5
      ·exact (hv4.row.mono (fun k hk h => ⟨.inr h, by omega, fun ho => by have := (HR.out.own ho).2; omega⟩)).modNil (Mod.refl nil w4).drew
      ·exact (HR.out.mod hm4 (fun k _ h e => by rcases e with e | e; exact hS (e ▸ h.1); exact h.2 e)).mono (fun k _ h => ⟨.inl h.1, h.2⟩) |>.modNil (Mod.refl nil w4).drew
   ·have q1 : ((seq : Int) != 0) = true := by simp; omega
    have hs : s.takes half b = s := by unfold JS.takes; rw [HSOME.out]; exact if_neg (fun h => hq h.2.1)
    have HS := Lib.hid hs
    clear hs
    have HEND : Hid (∀ n, Post (.returned (.tuple #[])) (w2.drewN n)) := Lib.hid (fun n => HPOST.out _ _ ⟨rfl, by rw [HS.out]; exact (HJ.out.mod (HM2.out.drewN n) (fun k _ h e => hS (e ▸ h))).mono (fun _ _ h => .inl h), HT2.out.mod ((Mod.refl nil w2).drewN n) (not_nil _), (HM2.out.drewN n).mono (fun _ _ h => .inl h)⟩)
    go_quiet (fail)
    go_wp2_with fail
    go_end0
    exact HEND.out _
  ·have k1 : ((kind : Int) != 1) = true := by simp; omega
   have hs : s.takes half b = s := by unfold JS.takes; rw [HSOME.out]; exact if_neg (fun h => hk h.1)
   have HS := Lib.hid hs
   clear hs
   have HEND : Hid (∀ n, Post (.returned (.tuple #[])) (w2.drewN n)) := Lib.hid (fun n => HPOST.out _ _ ⟨rfl, by rw [HS.out]; exact (HJ.out.mod (HM2.out.drewN n) (fun k _ h e => hS (e ▸ h))).mono (fun _ _ h => .inl h), HT2.out.mod ((Mod.refl nil w2).drewN n) (not_nil _), (HM2.out.drewN n).mono (fun _ _ h => .inl h)⟩)
   go_quiet (fail)
   go_wp2_with fail
   go_end0
   exact HEND.out _
end Go.Proofs.YtdfahddpkkeldaaGreat

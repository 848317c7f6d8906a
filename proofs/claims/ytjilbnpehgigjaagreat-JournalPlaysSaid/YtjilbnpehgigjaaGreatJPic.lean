/- Package journal: the object; size, Room, Gen, read. -/
import Derived.Test.YtjilbnpehgigjaaGreatFrameE
import Derived.Test.YtjilbnpehgigjaaGreatRefLists
import Derived.Test.YtjilbnpehgigjaaGreatDiskB
import Derived.Deep.QuietTactic
import Derived.BigQuiet
import Derived.Deep.RegionHeld3
import Derived.LoopTactic
import Derived.Test.YtjilbnpehgigjaaGreatRefDec
namespace Go.Proofs.YtjilbnpehgigjaaGreat
open Go.RowKit
structure JS where
  down : Bool
  has : Bool
  half : Nat
  gen : Nat
  at_ : Nat
  pict : List UInt8
  recs : List (List UInt8)
/-- a journal at block jb over the disk db, by the table tb; all of its own blocks are in S -/
structure IsJ (S : Nat → Prop) (w : World) (jb tb db : Nat) (s : JS) : Prop where
  own : S jb
  ex : ∃ pp cp pr cr, w.heap[jb]? = some (.cells #[.pointer (some ⟨tb, 0, none⟩), .pointer (some ⟨db, 0, none⟩), .bool s.down, .int .i64 s.half, .int .i64 s.gen, .bool s.has, .slice pp s.pict.length cp, .slice pr s.recs.length cr, .int .i64 s.at_] 84 (0, 0)) ∧
    IsRow (fun k => S k ∧ k ≠ jb ∧ ¬ (Value.slice pr s.recs.length cr).ownBlock = some k) w (.slice pp s.pict.length cp) (bys s.pict) ∧ IsTexts (fun k => S k ∧ k ≠ jb) w (.slice pr s.recs.length cr) s.recs.length s.recs
theorem IsJ.mod {S T : Nat → Prop} {w w' : World} {jb tb db : Nat} {s : JS} (h : IsJ S w jb tb db s) (m : Mod T w w') (hs : ∀ k, k < w.heap.size → S k → ¬ T k) : IsJ S w' jb tb db s := by
  obtain ⟨pp, cp, pr, cr, h1, h2, h3⟩ := h.ex
  exact ⟨h.own, pp, cp, pr, cr, (m.block jb (heap_lt h1) (hs jb (heap_lt h1) h.own)).trans h1, h2.mod m (fun k hk h => hs k hk h.1), h3.mod m (fun k hk h => hs k hk h.1)⟩
theorem IsJ.modNil {S : Nat → Prop} {w w' : World} {jb tb db : Nat} {s : JS} (h : IsJ S w jb tb db s) (m : Mod nil w w') : IsJ S w' jb tb db s := h.mod m (fun _ _ _ f => f)
theorem IsJ.mono {S T : Nat → Prop} {w : World} {jb tb db : Nat} {s : JS} (h : IsJ S w jb tb db s) (hs : ∀ k, k < w.heap.size → S k → T k) : IsJ T w jb tb db s := by
  obtain ⟨pp, cp, pr, cr, h1, h2, h3⟩ := h.ex
  exact ⟨hs jb (heap_lt h1) h.own, pp, cp, pr, cr, h1, h2.mono (fun k hk h => ⟨hs k hk h.1, h.2⟩), h3.mono (fun k hk h => ⟨hs k hk h.1, h.2⟩)⟩
theorem IsJ.lt {S : Nat → Prop} {w : World} {jb tb db : Nat} {s : JS} (h : IsJ S w jb tb db s) : jb < w.heap.size := by
  obtain ⟨pp, cp, pr, cr, h1, h2, h3⟩ := h.ex
  exact heap_lt h1
theorem jSize (jb db bl bm : Nat) (C : Nat → Prop) (d : DS) (w : World) (hc : w.cell? ⟨jb, 1, none⟩ = some (.pointer (some ⟨db, 0, none⟩))) (hd : IsDisk w db bl bm C d) :
    Calls Tryz.prog 46 #[.pointer (some ⟨jb, 0, none⟩)] w fun e w' => e = .returned (.int .i64 (d.lasts.length / 2 : Nat)) ∧ w = w' := by
  have hlen := diskLen db bl bm C d w hd
  obtain ⟨N, hN⟩ : ∃ N, d.lasts.length = N := ⟨_, rfl⟩
  obtain ⟨M, hM⟩ : ∃ M, N / 2 = M := ⟨_, rfl⟩
  have hNb : N ≤ 8192 := by have := hd.room; omega
  rw [hN] at hlen ⊢
  rw [hM]
  have m1 : (N : Int) / 2 = (M : Int) := by omega
  have HD := Lib.hid hlen
  clear hd hN hM hlen
  go_enter Tryz.func46, Tryz.ntmps46
  go_wp2_with fail
  refine HD.out.mono ?_
  rintro e w' ⟨rfl, rfl⟩
  go_wp2_with fail
  go_ret
  exact ⟨rfl, rfl⟩
theorem jRoom (S : Nat → Prop) (jb tb db bl bm : Nat) (C : Nat → Prop) (d : DS) (s : JS) (w : World) (hj : IsJ S w jb tb db s) (hd : IsDisk w db bl bm C d) (ha : s.at_ ≤ 1000000) :
    Calls Tryz.prog 30 #[.pointer (some ⟨jb, 0, none⟩)] w fun e w' => e = .returned (.int .i64 ((d.lasts.length / 2 : Nat) - (s.at_ : Int))) ∧ ∃ n, w' = w.drewN n := by
  obtain ⟨pp, cp, pr, cr, h1, h2, h3⟩ := hj.ex
  have c1 := cell_of h1 1
  have c8 := cell_of h1 8
  simp only [List.getElem?_toArray, List.getElem?_cons_zero, List.getElem?_cons_succ] at c1 c8
  obtain ⟨N, hN⟩ : ∃ N, d.lasts.length / 2 = N := ⟨_, rfl⟩
  have hNb : N ≤ 4096 := by have := hd.room; omega
  have HSZ : Hid (∀ n, Calls Tryz.prog 46 #[.pointer (some ⟨jb, 0, none⟩)] (w.drewN n) fun e w' => e = .returned (.int .i64 N) ∧ w' = w.drewN n) := Lib.hid (fun n => by
    rw [← hN]
    exact (jSize jb db bl bm C d (w.drewN n) c1 (hd.modNil ((Mod.refl nil w).drewN n))).mono (fun _ _ ⟨h1, h2⟩ => ⟨h1, h2.symm⟩))
  obtain ⟨A, hA⟩ : ∃ A, s.at_ = A := ⟨_, rfl⟩
  rw [hA] at c8 ha ⊢
  rw [hN]
  have hw : IntKind.i64.wrap ((N : Int) - (A : Int)) = (N : Int) - (A : Int) := by rw [IntKind.wrap_i64]; omega
  clear h1 h2 h3 hd hN hA hj
  go_enter Tryz.func30, Tryz.ntmps30
  go_wp2_with fail
  go_quiet (first | (go_at_call 46; exact Calls.quiet_of_same (HSZ.out _)))
  go_wp2_with fail
  go_ret
  exact ⟨rfl, _, rfl⟩
theorem jGen (S : Nat → Prop) (jb tb db : Nat) (s : JS) (w : World) (hj : IsJ S w jb tb db s) :
    Calls Tryz.prog 29 #[.pointer (some ⟨jb, 0, none⟩)] w fun e w' => e = .returned (.int .i64 s.gen) ∧ w = w' := by
  obtain ⟨pp, cp, pr, cr, h1, h2, h3⟩ := hj.ex
  have c4 := cell_of h1 4
  simp only [List.getElem?_toArray, List.getElem?_cons_zero, List.getElem?_cons_succ] at c4
  clear h1 h2 h3 hj
  go_enter Tryz.func29, Tryz.ntmps29
  go_wp2_with fail
  go_ret
  exact ⟨rfl, rfl⟩
theorem read_ok (d : DS) (i : Nat) (hd : d.down = false) (hi : i < d.lasts.length) : (d.read (i : Int)).2 = 0 := by
  unfold DS.read DS.sector
  rw [hd]
  simp only [Bool.false_eq_true, ↓reduceIte]
  rw [if_neg (by omega)]
  split <;> rfl
/-- the bytes of the first so many sectors from one on -/
def sectorsAt (d : DS) (base : Nat) : Nat → List UInt8
  | 0 => []
  | i + 1 => sectorsAt d base i ++ (d.read ((base + i : Nat) : Int)).1
theorem sectorsAt_length (d : DS) (base : Nat) (n : Nat) (h : ∀ i, i < n → (d.read ((base + i : Nat) : Int)).1.length = 64) : (sectorsAt d base n).length = 64 * n := by
  induction n with
  | zero => rfl
  | succ n ih => rw [sectorsAt, List.length_append, ih (fun i hi => h i (by omega)), h n (by omega)]; omega
theorem read_64 (w : World) (db bl bm : Nat) (C : Nat → Prop) (d : DS) (h : IsDisk w db bl bm C d) (i : Nat) (hd : d.down = false) (hi : i < d.lasts.length) : (d.read (i : Int)).1.length = 64 := by
  unfold DS.read DS.sector
  rw [hd]
  simp only [Bool.false_eq_true, ↓reduceIte]
  rw [if_neg (by omega)]
  split
  · rename_i p hp
    have hm := List.mem_of_find?_eq_some hp
    obtain ⟨vm, _, h2⟩ := h.pend
    obtain ⟨j, hj, rfl⟩ := List.getElem_of_mem hm
    exact (h2.2 j (by rw [h2.1]; exact hj) hj).2.2
  · obtain ⟨vl, _, h2, h3⟩ := h.lasts
    have := (h3 i (by omega) hi).2
    simp only [Int.toNat_natCast]
    rw [List.getD_eq_getElem?_getD, List.getElem?_eq_getElem hi]
    exact this
end Go.Proofs.YtjilbnpehgigjaaGreat

/- Package journal: read. -/
namespace Go.Proofs.YtjilbnpehgigjaaGreat
open Go.RowKit
set_option maxRecDepth 100000 in
set_option maxHeartbeats 1000000 in
theorem jRead (jb db bl bm half : Nat) (C : Nat → Prop) (d : DS) (w : World) (hc : w.cell? ⟨jb, 1, none⟩ = some (.pointer (some ⟨db, 0, none⟩))) (hd : IsDisk w db bl bm C d) (hh : half ≤ 1) (hdn : d.down = false) :
    Calls Tryz.prog 31 #[.pointer (some ⟨jb, 0, none⟩), .int .i64 half] w fun e w' => ∃ v, e = .returned v ∧ IsVec (fun k => w.heap.size ≤ k) w' 5 1 v (64 * (d.lasts.length / 2)) (bys (sectorsAt d (half * (d.lasts.length / 2)) (d.lasts.length / 2))) ∧ Mod nil w w' := by
  refine (?_ : ∀ Post : Ending → World → Prop, Hid (∀ e w', (∃ v, e = .returned v ∧ IsVec (fun k => w.heap.size ≤ k) w' 5 1 v (64 * (d.lasts.length / 2)) (bys (sectorsAt d (half * (d.lasts.length / 2)) (d.lasts.length / 2))) ∧ Mod nil w w') → Post e w') → Calls Tryz.prog 31 #[.pointer (some ⟨jb, 0, none⟩), .int .i64 half] w Post) _ (Lib.hid (fun _ _ h => h))
  intro Post HPOST
  obtain ⟨N, hN⟩ : ∃ N, d.lasts.length / 2 = N := ⟨_, rfl⟩
  have hNb : N ≤ 4096 := by have := hd.room; omega
  obtain ⟨X, hX⟩ : ∃ X, half * N = X := ⟨_, rfl⟩
  have hXb : X ≤ 4096 := by
    rcases (show half = 0 ∨ half = 1 by omega) with rfl | rfl <;> omega
  have hXN : X + N ≤ d.lasts.length := by
    rcases (show half = 0 ∨ half = 1 by omega) with rfl | rfl <;> omega
  rw [hN, hX] at HPOST
  have hXm : IntKind.i64.wrap ((half : Int) * (N : Int)) = (X : Int) := by
    rw [show (half : Int) * (N : Int) = ((half * N : Nat) : Int) by simp, hX, IntKind.wrap_i64]; omega
  have HSZ : Hid (∀ W, Mod nil w W → Calls Tryz.prog 46 #[.pointer (some ⟨jb, 0, none⟩)] W fun e w' => e = .returned (.int .i64 N) ∧ W = w') := Lib.hid (fun W m => by
    rw [← hN]
    exact jSize jb db bl bm C d W (cell_kept hc m (World.block_lt_of_cell? _ _ hc) (not_nil _)) (hd.modNil m))
  have HLEN : Hid (∀ i, i < N → (d.read ((X + i : Nat) : Int)).1.length = 64) := Lib.hid (fun i hi => read_64 w db bl bm C d hd (X + i) hdn (by omega))
  have HRD : Hid (∀ W i, Mod nil w W → i < N → Calls Tryz.prog 55 #[.pointer (some ⟨db, 0, none⟩), .int .i64 ((X : Int) + (i : Int))] W fun e w' => ∃ p c, e = .returned (.tuple #[.slice p 64 c, .int .i64 0]) ∧ IsVec (fun k => W.heap.size ≤ k) w' 5 1 (.slice p 64 c) 64 (bys (d.read ((X + i : Nat) : Int)).1) ∧ Mod nil W w') := Lib.hid (fun W i m hi => by
    have h := diskRead db bl bm C d ((X + i : Nat) : Int) W (hd.modNil m)
    rw [read_ok d (X + i) hdn (by omega), HLEN.out i hi] at h
    rw [show ((X : Int) + (i : Int)) = ((X + i : Nat) : Int) by simp]
    refine h.mono ?_
    rintro e w' ⟨v, rfl, hv, hm⟩
    obtain ⟨p, c, rfl⟩ := hv.form
    exact ⟨p, c, rfl, hv, hm⟩)
  have HC := Lib.hid hc
  clear hd hdn hN hX hh hXN hc
  obtain ⟨B, hB⟩ : ∃ B, w.heap.size = B := ⟨_, rfl⟩
  have HB := Lib.hid hB
  clear hB
  go_enter Tryz.func31, Tryz.ntmps31
  go_wp2_with fail
  refine (HSZ.out w (Mod.refl _ _)).mono ?_
  rintro e w' ⟨rfl, rfl⟩
  go_wp2_with fail
  go_loopw [5, 11] (fun v5 v11 wr => ∃ (i k : Nat) (q : Option Addr) (c : Nat), i ≤ N ∧ v11 = .int .i64 i ∧ v5 = .slice q k c ∧ k ≤ 262144 ∧ Hid (k = 64 * i) ∧ Hid (IsVec (fun k => B ≤ k) wr 5 1 (.slice q k c) k (bys (sectorsAt d X i))) ∧ Hid (Mod nil w wr)) (fun _ v _ => N - (intOf v).toNat)
  case atStart => exact ⟨0, 0, none, 0, by omega, rfl, rfl, by omega, Lib.hid rfl, Lib.hid (IsVec.nil _ _ _ _), Lib.hid (Mod.refl _ _)⟩
  case round =>
    obtain ⟨i, k, q, c, hi, rfl, rfl, hk, HK, HVR, HMR⟩ := hrel
    by_cases hlt : i < N
    · have c1 := cell_kept HC.out HMR.out (World.block_lt_of_cell? _ _ HC.out) (not_nil _)
      have hlk : (sectorsAt d X i).length = k := by rw [sectorsAt_length d X i (fun j hj => HLEN.out j (by omega)), HK.out]
      have hXi : IntKind.i64.wrap ((X : Int) + (i : Int)) = (X : Int) + (i : Int) := by rw [IntKind.wrap_i64]; omega
      have HLK := Lib.hid hlk
      have hc1l := World.block_lt_of_cell? _ _ c1
      clear hlk
      go_upto_region 5 with (fail)
      go_region_held3 (fun w' => w'.cell? ⟨jb, 1, none⟩ = some (.pointer (some ⟨db, 0, none⟩))) (first | exact c1 | exact c1q) (first
        | (go_at_call 55; refine (HRD.out _ i ?_ hlt).mono ?_; exact HMR.out.thenNil (by (repeat (refine Mod.drew ?_)); exact Mod.refl nil wr); rintro e wq ⟨pq, cq, rfl, hvq, hmq⟩; have hmq' := (by (repeat (refine Mod.drew ?_)); exact Mod.refl nil wr : Mod nil wr _).thenNil hmq; have c1q := cell_kept c1 hmq' hc1l (not_nil _))
        | (go_at_call 46; refine (HSZ.out _ ?_).mono ?_; exact HMR.out.thenNil (by (repeat (refine Mod.drew ?_)); exact Mod.refl nil wr); rintro e w' ⟨rfl, rfl⟩))
      obtain ⟨v7, w7, hrun, hv7, hm7⟩ := bytes_append (l := sectorsAt d X i) (m := (d.read ((X + i : Nat) : Int)).1) 22 (by rw [HLK.out]; exact HVR.out.modNil hmq') hvq.row (by rw [HLK.out, HLEN.out i hlt]; omega)
      have hl7 : (sectorsAt d X i ++ (d.read ((X + i : Nat) : Int)).1).length = k + 64 := by rw [List.length_append, HLK.out, HLEN.out i hlt]
      rw [hl7] at hv7
      obtain ⟨p7, c7, rfl⟩ := hv7.form
      have hsz := hmq'.size
      have HRUN := Lib.hid hrun
      have HV7 : Hid (IsVec (fun k => B ≤ k) w7 5 1 (.slice p7 (k + 64) c7) (k + 64) (bys (sectorsAt d X (i + 1)))) := Lib.hid (hv7.mono (fun j _ h => h.elim id (fun h => by have := HMR.out.size; have := HB.out; omega)))
      have HM7 : Hid (Mod nil w w7) := Lib.hid ((HMR.out.thenNil hmq').new hm7 (fun j h => by have := HB.out; omega))
      clear hrun hv7 hm7 hl7 hvq hmq hmq' c1 c1q
      go_wp2_with (first | (at_builtin; refine wpList_append_run rfl _ _ _ _ rfl rfl rfl HRUN.out ?_))
      exact ⟨⟨i + 1, k + 64, p7, c7, by omega, by go_num, rfl, by have := HK.out; omega, Lib.hid (by have := HK.out; omega), HV7, HM7⟩, by simp [intOf]; omega⟩
    · obtain rfl : i = N := by omega
      obtain rfl : k = 64 * i := HK.out
      have HEND : Hid (Post (.returned (.slice q (64 * i) c)) wr) := Lib.hid (HPOST.out _ _ ⟨_, rfl, HVR.out.mono (fun k _ h => by have := HB.out; omega), HMR.out⟩)
      clear HVR HMR HK
      go_wp2_with fail
      exact HEND.out
end Go.Proofs.YtjilbnpehgigjaaGreat

/- Package journal: lays. -/
namespace Go.Proofs.YtjilbnpehgigjaaGreat
open Go.RowKit
theorem IsDisk.here {w : World} {b bl bm : Nat} {C : Nat → Prop} {d : DS} (h : IsDisk w b bl bm C d) : IsDisk w b bl bm (fun k => C k ∧ k < w.heap.size) d := by
  obtain ⟨vl, h1, h2, h3⟩ := h.lasts
  obtain ⟨vm, h4, h5⟩ := h.pend
  exact ⟨h.obj, ⟨vl, h1, h2, fun i hi hi' => ⟨(h3 i hi hi').1.here, (h3 i hi hi').2⟩⟩, ⟨vm, h4, h5.1, fun i hi hi' => ⟨(h5.2 i hi hi').1, (h5.2 i hi hi').2.1.here, (h5.2 i hi hi').2.2⟩⟩, h.keys, h.room, h.fz, h.ne1, h.ne2, h.ne3, fun x => h.c1 x.1, fun x => h.c2 x.1, fun x => h.c3 x.1⟩
def sectAt (b : List UInt8) (k : Nat) : List UInt8 := (b.drop (64 * k)).take 64
/-- the sectors behind the first, from number k on -/
def DS.tails (d : DS) (base : Nat) (b : List UInt8) : Nat → Nat → DS × Bool
  | 0, _ => (d, true)
  | f + 1, k => if (d.write ((base + k : Nat) : Int) (sectAt b k)).2 = 0 then DS.tails (d.write ((base + k : Nat) : Int) (sectAt b k)).1 base b f (k + 1) else ((d.write ((base + k : Nat) : Int) (sectAt b k)).1, false)
/-- behind the tails: the sync between, the first sector, the last sync -/
def DS.heads (d : DS) (base : Nat) (b : List UInt8) (m : Nat) : DS × Bool :=
  if 1 < m ∧ d.sync.2 ≠ 0 then (d.sync.1, false) else
  if ((if 1 < m then d.sync.1 else d).write (base : Int) (sectAt b 0)).2 ≠ 0 then (((if 1 < m then d.sync.1 else d).write (base : Int) (sectAt b 0)).1, false) else
  ((((if 1 < m then d.sync.1 else d).write (base : Int) (sectAt b 0)).1).sync.1, decide ((((if 1 < m then d.sync.1 else d).write (base : Int) (sectAt b 0)).1).sync.2 = 0))
def DS.lays (d : DS) (base : Nat) (b : List UInt8) (m : Nat) : DS × Bool :=
  if (d.tails base b (m - 1) 1).2 = true then (d.tails base b (m - 1) 1).1.heads base b m else ((d.tails base b (m - 1) 1).1, false)
theorem DS.write_len (d : DS) (i : Int) (l : List UInt8) : (d.write i l).1.lasts.length = d.lasts.length := by
  unfold DS.write
  have := d.burn_lasts.1
  repeat' split
  all_goals (simp only; try rw [this])
theorem DS.sync_len (d : DS) : d.sync.1.lasts.length = d.lasts.length := by
  unfold DS.sync DS.synced
  have := d.burn_lasts.1
  repeat' split
  all_goals (first | rfl | exact congrArg List.length this | simp)
theorem DS.sync_err (d : DS) : d.sync.2 = 0 ∨ d.sync.2 = 13 := by
  unfold DS.sync
  repeat' split
  all_goals simp
theorem DS.tails_go (d : DS) (base : Nat) (b : List UInt8) (f k : Nat) (h : (d.write ((base + k : Nat) : Int) (sectAt b k)).2 = 0) : d.tails base b (f + 1) k = (d.write ((base + k : Nat) : Int) (sectAt b k)).1.tails base b f (k + 1) := by rw [DS.tails]; exact if_pos h
theorem DS.tails_stop (d : DS) (base : Nat) (b : List UInt8) (f k : Nat) (h : ¬ (d.write ((base + k : Nat) : Int) (sectAt b k)).2 = 0) : d.tails base b (f + 1) k = ((d.write ((base + k : Nat) : Int) (sectAt b k)).1, false) := by rw [DS.tails]; exact if_neg h
end Go.Proofs.YtjilbnpehgigjaaGreat

/- Slices of byte slices that the program made itself, each with room for its bytes. -/
namespace Go.Proofs.YtjilbnpehgigjaaGreat
open Go.RowKit
/-- a slice holds no more than it has room for -/
def CapOk (x : Value) : Prop := ∀ p n c, x = .slice p n c → n ≤ c ∧ c ≤ maxLen
theorem IsVec.capOk {S : Nat → Prop} {w : World} {E : TypeId} {sz n : Nat} {v : Value} {xs : List Value} (h : IsVec S w E sz v n xs) : CapOk v := by
  obtain ⟨p, c, rfl, h1, h2⟩ := vecCap h
  intro p' n' c' e
  simp only [Value.slice.injEq] at e
  obtain ⟨rfl, rfl, rfl⟩ := e
  exact ⟨h1, h2⟩
def IsTextsC (S : Nat → Prop) (w : World) (v : Value) (n : Nat) (l : List (List UInt8)) : Prop :=
  ∃ vs, IsVec S w 22 1 v n vs ∧ Each2 (fun x t => IsRow (fun k => S k ∧ ¬ v.ownBlock = some k) w x (bys t) ∧ CapOk x) vs l
theorem IsTextsC.texts {S : Nat → Prop} {w : World} {v : Value} {n : Nat} {l : List (List UInt8)} (h : IsTextsC S w v n l) : IsTexts S w v n l := by
  obtain ⟨vs, h1, h2⟩ := h
  exact ⟨vs, h1, each2_imp (fun a b r => r.1) h2⟩
theorem IsTextsC.nil (S : Nat → Prop) (w : World) : IsTextsC S w (.slice none 0 0) 0 [] := ⟨[], IsVec.nil _ _ _ _, trivial⟩
theorem IsTextsC.len {S : Nat → Prop} {w : World} {v : Value} {n : Nat} {l : List (List UInt8)} (h : IsTextsC S w v n l) : l.length = n := h.texts.len
theorem IsTextsC.form {S : Nat → Prop} {w : World} {v : Value} {n : Nat} {l : List (List UInt8)} (h : IsTextsC S w v n l) : ∃ p c, v = .slice p n c := h.texts.form
theorem IsTextsC.own {S : Nat → Prop} {w : World} {v : Value} {n : Nat} {l : List (List UInt8)} (h : IsTextsC S w v n l) {k : Nat} (hk : v.ownBlock = some k) : S k ∧ k < w.heap.size := h.texts.own hk
theorem IsTextsC.mod {S T : Nat → Prop} {w w' : World} {v : Value} {n : Nat} {l : List (List UInt8)} (h : IsTextsC S w v n l) (m : Mod T w w') (hs : ∀ k, k < w.heap.size → S k → ¬ T k) : IsTextsC S w' v n l := by
  obtain ⟨vs, h1, h2⟩ := h
  exact ⟨vs, h1.mod m hs, each2_imp (fun a b r => ⟨r.1.mod m (fun k hk h => hs k hk h.1), r.2⟩) h2⟩
theorem IsTextsC.modNil {S : Nat → Prop} {w w' : World} {v : Value} {n : Nat} {l : List (List UInt8)} (h : IsTextsC S w v n l) (m : Mod Go.Proofs.YtjilbnpehgigjaaGreat.nil w w') : IsTextsC S w' v n l := h.mod m (fun _ _ _ f => f)
theorem IsTextsC.mono {S T : Nat → Prop} {w : World} {v : Value} {n : Nat} {l : List (List UInt8)} (h : IsTextsC S w v n l) (hs : ∀ k, k < w.heap.size → S k → T k) : IsTextsC T w v n l := by
  obtain ⟨vs, h1, h2⟩ := h
  exact ⟨vs, h1.mono hs, each2_imp (fun a b r => ⟨r.1.mono (fun k hk h => ⟨hs k hk h.1, h.2⟩), r.2⟩) h2⟩
/-- one of the texts -/
theorem IsTextsC.at {S : Nat → Prop} {w : World} {p : Option Addr} {n c : Nat} {l : List (List UInt8)} (h : IsTextsC S w (.slice p n c) n l) (i : Nat) (hi : i < n) :
    ∃ g x, p = some ⟨g, 0, none⟩ ∧ g < w.heap.size ∧ w.cell? ⟨g, i, none⟩ = some x ∧ IsRow S w x (bys (l.getD i [])) ∧ CapOk x := by
  have hl := h.len
  obtain ⟨vs, h1, h2⟩ := h
  have hvl : vs.length = n := by have := h1.len; omega
  obtain ⟨g, rfl, -, hg⟩ := vecBlock h1 (by omega)
  obtain ⟨p', c', hp, hcc⟩ := h1.row
  simp only [Value.slice.injEq] at hp
  obtain ⟨rfl, -, -⟩ := hp
  obtain ⟨b, off, q1, q2, q3, q4⟩ := hcc i (by omega)
  simp only [Option.some.injEq, Addr.mk.injEq, and_true] at q1
  obtain ⟨rfl, rfl⟩ := q1
  obtain ⟨h', hr⟩ := each2_get h2 i (by omega)
  rw [Nat.zero_add] at q4
  refine ⟨g, vs[i], rfl, hg, by rw [q4, List.getD_eq_getElem?_getD, List.getElem?_eq_getElem (by omega)]; rfl, ?_, hr.2⟩
  rw [List.getD_eq_getElem?_getD, List.getElem?_eq_getElem h']
  exact hr.1.mono (fun k _ h => h.1)
/-- append of one text -/
theorem textsC_append {S R : Nat → Prop} {w : World} (ty : TypeId) {v x : Value} {n g : Nat} {l : List (List UInt8)} {t : List UInt8} (h : IsTextsC S w v n l) (hx : IsRow R w x (bys t)) (hxc : CapOk x) (hRS : ∀ k, R k → S k ∧ ¬ v.ownBlock = some k) (hg : w.heap.size = g) (hb : n + 1 ≤ 1000000000) :
    ∃ v' w', (Builtin.append_ #[40, 40] ty #[v, .slice (some ⟨g, 0, none⟩) 1 1]).run Tryz.prog (w.alloc (.cells #[x] 22)) = .ok v' w' ∧ IsTextsC (fun k => S k ∨ w.heap.size ≤ k) w' v' (n + 1) (l ++ [t]) ∧ Mod (fun k => v.ownBlock = some k) w w' ∧ ∀ k, v'.ownBlock = some k → v.ownBlock = some k ∨ w.heap.size ≤ k := by
  obtain ⟨i0, hi, hz0, hz1, hz2⟩ := info_parts info_text
  obtain ⟨vs, h1, h2⟩ := h
  have hm : Mod Go.Proofs.YtjilbnpehgigjaaGreat.nil w (w.alloc (.cells #[x] 22)) := (Mod.refl _ w).alloc _
  have hone : x.oneCell' = true := by obtain ⟨p, c, rfl, _⟩ := hx; rfl
  obtain ⟨v', w', hr, h3, h4⟩ := vec_append (P := Tryz.prog) 40 ty 22 i0 _ 1 24 Tryz.underlying40 hi hz0 hz1 hz2 rfl (by omega) (show IsVec (fun k => v.ownBlock = some k) _ _ _ _ _ _ from ⟨(h1.modNil hm).1, fun _ h => h⟩) (cellsOne w 22 x g hg) rfl (by intro u hu; rw [List.mem_singleton.1 hu]; exact hone) (by unfold maxLen; omega) (by omega)
  have hob : ∀ k, v.ownBlock = some k → k < w.heap.size := fun k hk => by
    rcases h1.1.2 with ⟨rfl, _⟩ | ⟨g', cap, cur, rfl, _, hh, _⟩
    · simp [Value.ownBlock] at hk
    · simp [Value.ownBlock] at hk
      subst hk
      exact heap_lt hh
  have hmw : Mod (fun k => v.ownBlock = some k) w w' := hm.ofNil.trans h4 (fun _ _ h => h)
  refine ⟨v', w', hr, ⟨_, h3.mono (fun k _ hk => hk.elim (fun h => .inl (h1.2 k h)) (fun h => .inr (Nat.le_trans hm.size h))), each2_snoc ⟨?_, hxc⟩ (each2_imp (fun a b r => ⟨?_, r.2⟩) h2)⟩, hmw, fun k ho => (h3.2 k ho).imp id (fun h => Nat.le_trans hm.size h)⟩
  · exact (hx.here.mod hmw (fun k _ hk ho => (hRS k hk.1).2 ho)).mono (fun k _ hk => ⟨.inl (hRS k hk.1).1, fun ho => by
      rcases h3.2 k ho with h' | h'
      · exact (hRS k hk.1).2 h'
      · have := hm.size; have := hk.2; omega⟩)
  · exact (r.1.here.mod hmw (fun k _ hk ho => hk.1.2 ho)).mono (fun k _ hk => ⟨.inl hk.1.1, fun ho => by
      rcases h3.2 k ho with h' | h'
      · exact hk.1.2 h'
      · have := hm.size; have := hk.2; omega⟩)
end Go.Proofs.YtjilbnpehgigjaaGreat

/- Package journal: Picture, Records. -/
namespace Go.Proofs.YtjilbnpehgigjaaGreat
open Go.RowKit
set_option maxHeartbeats 1000000 in
theorem jPicture (S : Nat → Prop) (jb tb db : Nat) (s : JS) (w : World) (hj : IsJ S w jb tb db s) (hl : s.pict.length ≤ 60000) :
    Calls Tryz.prog 15 #[.pointer (some ⟨jb, 0, none⟩)] w fun e w' => ∃ p c, e = .returned (.tuple #[.slice p s.pict.length c, .bool s.has]) ∧ IsVec (fun k => w.heap.size ≤ k) w' 5 1 (.slice p s.pict.length c) s.pict.length (bys s.pict) ∧ Mod nil w w' := by
  refine (?_ : ∀ Post : Ending → World → Prop, Hid (∀ e w', (∃ p c, e = .returned (.tuple #[.slice p s.pict.length c, .bool s.has]) ∧ IsVec (fun k => w.heap.size ≤ k) w' 5 1 (.slice p s.pict.length c) s.pict.length (bys s.pict) ∧ Mod nil w w') → Post e w') → Calls Tryz.prog 15 #[.pointer (some ⟨jb, 0, none⟩)] w Post) _ (Lib.hid (fun _ _ h => h))
  intro Post HPOST
  obtain ⟨pp, cp, pr, cr, h1, h2, h3⟩ := hj.ex
  have c5 := cell_of h1 5
  have c6 := cell_of h1 6
  have hjl := heap_lt h1
  simp only [List.getElem?_toArray, List.getElem?_cons_zero, List.getElem?_cons_succ] at c5 c6
  have HCL : Hid (∀ W, Mod nil w W → Calls Tryz.prog 36 #[.slice pp s.pict.length cp] W fun e w' => ∃ p c, e = .returned (.slice p s.pict.length c) ∧ Hid (IsVec (fun k => w.heap.size ≤ k) w' 5 1 (.slice p s.pict.length c) s.pict.length (bys s.pict)) ∧ Mod nil W w') := Lib.hid (fun W m => by
    refine (bytesClone _ _ _ W (h2.modNil m) (by omega)).mono ?_
    rintro e w' ⟨v, rfl, hv, hm⟩
    obtain ⟨p, c, rfl⟩ := hv.form
    exact ⟨p, c, rfl, Lib.hid (hv.mono (fun k _ h => Nat.le_trans m.size h)), hm⟩)
  obtain ⟨n, hn⟩ : ∃ n, s.pict.length = n := ⟨_, rfl⟩
  obtain ⟨ha, hha⟩ : ∃ ha, s.has = ha := ⟨_, rfl⟩
  rw [hn] at HCL HPOST c6
  rw [hha] at HPOST c5
  clear h1 h2 h3 hj hn hl hha
  go_enter Tryz.func15, Tryz.ntmps15
  go_wp2_with fail
  go_region_held3 (fun w' => w'.cell? ⟨jb, 5, none⟩ = some (.bool ha) ∧ w'.cell? ⟨jb, 6, none⟩ = some (.slice pp n cp)) (first | exact ⟨c5, c6⟩ | exact ⟨d5, d6⟩) (first
    | (go_at_call 36; refine (HCL.out _ ?_).mono ?_; (repeat (first | exact Mod.refl _ _ | refine Mod.drew ?_)); rintro e wq ⟨pq, cq, rfl, hvq, hmq⟩; have hmq' := (by (repeat (refine Mod.drew ?_)); exact Mod.refl nil w : Mod nil w _).thenNil hmq; have d5 := cell_kept c5 hmq' hjl (not_nil _); have d6 := cell_kept c6 hmq' hjl (not_nil _)))
  have HE := Lib.hid (HPOST.out _ _ ⟨pq, cq, rfl, hvq.out, hmq'⟩)
  clear hmq' hmq
  go_wp2_with fail
  exact HE.out
set_option maxRecDepth 100000 in
set_option maxHeartbeats 1000000 in
theorem jRecords (S : Nat → Prop) (jb tb db : Nat) (s : JS) (w : World) (hj : IsJ S w jb tb db s) (hl : ∀ r ∈ s.recs, r.length ≤ 60000) (hn : s.recs.length ≤ 100000) :
    Calls Tryz.prog 13 #[.pointer (some ⟨jb, 0, none⟩)] w fun e w' => ∃ v, e = .returned v ∧ IsTextsC (fun k => w.heap.size ≤ k) w' v s.recs.length s.recs ∧ Mod nil w w' := by
  refine (?_ : ∀ Post : Ending → World → Prop, Hid (∀ e w', (∃ v, e = .returned v ∧ IsTextsC (fun k => w.heap.size ≤ k) w' v s.recs.length s.recs ∧ Mod nil w w') → Post e w') → Calls Tryz.prog 13 #[.pointer (some ⟨jb, 0, none⟩)] w Post) _ (Lib.hid (fun _ _ h => h))
  intro Post HPOST
  obtain ⟨pp, cp, pr, cr, h1, h2, h3⟩ := hj.ex
  have c7 := cell_of h1 7
  simp only [List.getElem?_toArray, List.getElem?_cons_zero, List.getElem?_cons_succ] at c7
  obtain ⟨l, hrl⟩ : ∃ l, s.recs = l := ⟨_, rfl⟩
  obtain ⟨n, hnn⟩ : ∃ n, l.length = n := ⟨_, rfl⟩
  rw [hrl] at HPOST c7 h3 hl hn
  rw [hnn] at HPOST c7 h3 hn
  have HR := Lib.hid h3
  have HL := Lib.hid hl
  have HN := Lib.hid hnn
  obtain ⟨B, hB⟩ : ∃ B, w.heap.size = B := ⟨_, rfl⟩
  rw [hB] at HPOST
  have HB := Lib.hid hB
  clear h1 h2 h3 hj hl hrl hnn hB
  go_enter Tryz.func13, Tryz.ntmps13
  go_wp2_with fail
  go_loopw [3, 11] (fun v3 v11 wr => ∃ (i : Nat) (q : Option Addr) (c : Nat), i ≤ n ∧ v11 = .int .i64 i ∧ v3 = .slice q i c ∧ Hid (IsTextsC (fun k => B ≤ k) wr (.slice q i c) i (l.take i)) ∧ Hid (Mod nil w wr)) (fun _ v _ => n - (intOf v).toNat)
  case atStart => exact ⟨0, none, 0, by omega, rfl, rfl, Lib.hid (IsTextsC.nil _ _), Lib.hid (Mod.refl _ _)⟩
  case round =>
    obtain ⟨i, q, c, hi, rfl, rfl, HV, HM⟩ := hrel
    by_cases hlt : i < n
    · obtain ⟨g, x, rfl, hg, hx, hrow⟩ := (HR.out.modNil HM.out).at i hlt
      obtain ⟨t, ht⟩ : ∃ t, l.getD i [] = t := ⟨_, rfl⟩
      rw [ht] at hrow
      have htl : t.length ≤ 60000 := by
        rw [← ht, List.getD_eq_getElem?_getD, List.getElem?_eq_getElem (by rw [HN.out]; exact hlt)]
        exact HL.out _ (List.getElem_mem _)
      have HROW := Lib.hid hrow
      have HT : Hid (l.take (i + 1) = l.take i ++ [t]) := Lib.hid (by
        rw [← ht, List.take_succ_eq_append_getElem (by rw [HN.out]; exact hlt), List.getD_eq_getElem?_getD, List.getElem?_eq_getElem (by rw [HN.out]; exact hlt)]; rfl)
      clear hrow ht
      go_wp2_with fail
      refine (bytesClone _ _ _ wr HROW.out (by omega)).mono ?_
      rintro e w1 ⟨v1, rfl, hv1, hm1⟩
      obtain ⟨p1, c1, rfl⟩ := hv1.form
      have HV1 := Lib.hid hv1
      have HM1 := Lib.hid hm1
      have hs1 := hm1.size
      have hs2 := HM.out.size
      obtain ⟨g2, hg2⟩ : ∃ g2, w1.heap.size = g2 := ⟨_, rfl⟩
      have hown : ∀ k, wr.heap.size ≤ k → B ≤ k ∧ ¬ (Value.slice q i c).ownBlock = some k := fun k hk => ⟨by have := HB.out; omega, fun ho => by have := (HV.out.own ho).2; omega⟩
      obtain ⟨v8, w8, hrun8, hv8, hm8, ho8⟩ := textsC_append (g := g2) 40 (HV.out.modNil HM1.out) HV1.out.row HV1.out.capOk hown hg2 (by omega)
      obtain ⟨p8, c8, rfl⟩ := hv8.form
      have HRUN := Lib.hid hrun8
      have HV8 : Hid (IsTextsC (fun k => B ≤ k) w8 (.slice p8 (i + 1) c8) (i + 1) (l.take (i + 1))) := Lib.hid (by
        rw [HT.out]
        exact hv8.mono (fun k _ h => h.elim id (fun h => by have := HB.out; omega)))
      have HM8 : Hid (Mod nil w w8) := Lib.hid ((HM.out.thenNil HM1.out).new hm8 (fun k ho => by have := (HV.out.own ho).1; have := HB.out; omega))
      clear hv1 hm1 hrun8 hv8 hm8 ho8 hown hs1 hs2
      go_wp2_with (first | (at_builtin; refine wpList_append_run rfl _ _ _ _ rfl rfl rfl HRUN.out ?_))
      exact ⟨⟨i + 1, p8, c8, by omega, by go_num, rfl, HV8, HM8⟩, by simp [intOf]; omega⟩
    · obtain rfl : i = n := by omega
      have HEND : Hid (Post (.returned (.slice q i c)) wr) := Lib.hid (HPOST.out _ _ ⟨_, rfl, by have h := HV.out; rw [List.take_of_length_le (by rw [HN.out]; exact Nat.le_refl _)] at h; exact h, HM.out⟩)
      clear HV HM
      go_wp2_with fail
      exact HEND.out
end Go.Proofs.YtjilbnpehgigjaaGreat

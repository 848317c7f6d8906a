/- Package journal: read. -/
import Derived.Test.YtlkphkkjpjlnhaaJournal
import Derived.Deep.RegionHeld3
namespace Go.Proofs.Ytlkphkkjpjlnhaa
open Go.RowKit
set_option maxRecDepth 100000 in
set_option maxHeartbeats 1000000 in
theorem jRead (jb db bl bm half : Nat) (C : Nat → Prop) (d : DS) (w : World) (hc : w.cell? ⟨jb, 1, none⟩ = some (.pointer (some ⟨db, 0, none⟩))) (hd : IsDisk w db bl bm C d) (hh : half ≤ 1) (hdn : d.down = false) :
    Calls Try.prog 18 #[.pointer (some ⟨jb, 0, none⟩), .int .i64 half] w fun e w' => ∃ v, e = .returned v ∧ IsVec (fun k => w.heap.size ≤ k) w' 5 1 v (64 * (d.lasts.length / 2)) (bys (sectorsAt d (half * (d.lasts.length / 2)) (d.lasts.length / 2))) ∧ Mod nil w w' := by
  refine (?_ : ∀ Post : Ending → World → Prop, Hid (∀ e w', (∃ v, e = .returned v ∧ IsVec (fun k => w.heap.size ≤ k) w' 5 1 v (64 * (d.lasts.length / 2)) (bys (sectorsAt d (half * (d.lasts.length / 2)) (d.lasts.length / 2))) ∧ Mod nil w w') → Post e w') → Calls Try.prog 18 #[.pointer (some ⟨jb, 0, none⟩), .int .i64 half] w Post) _ (Lib.hid (fun _ _ h => h))
  intro Post HPOST
  obtain ⟨N, hN⟩ : ∃ N, d.lasts.length / 2 = N := ⟨_, rfl⟩
  have hNb : N ≤ 4096 := by have := hd.room; omega
  obtain ⟨X, hX⟩ : ∃ X, half * N = X := ⟨_, rfl⟩
  have hXb : X ≤ 4096 := by
    rcases (show half = 0 ∨ half = 1 by omega) with rfl | rfl <;> omega
  have hXN : X + N ≤ d.lasts.length := by
    rcases (show half = 0 ∨ half = 1 by omega) with rfl | rfl <;> omega
  rw [hN, hX] at HPOST
  have hXm : IntKind.i64.wrap ((half : Int) * (N : Int)) = (X : Int) := by
    rw [show (half : Int) * (N : Int) = ((half * N : Nat) : Int) by simp, hX, IntKind.wrap_i64]; omega
  have HSZ : Hid (∀ W, Mod nil w W → Calls Try.prog 24 #[.pointer (some ⟨jb, 0, none⟩)] W fun e w' => e = .returned (.int .i64 N) ∧ W = w') := Lib.hid (fun W m => by
    rw [← hN]
    exact jSize jb db bl bm C d W (cell_kept hc m (World.block_lt_of_cell? _ _ hc) (not_nil _)) (hd.modNil m))
  have HLEN : Hid (∀ i, i < N → (d.read ((X + i : Nat) : Int)).1.length = 64) := Lib.hid (fun i hi => read_64 w db bl bm C d hd (X + i) hdn (by omega))
  have HRD : Hid (∀ W i, Mod nil w W → i < N → Calls Try.prog 26 #[.pointer (some ⟨db, 0, none⟩), .int .i64 ((X : Int) + (i : Int))] W fun e w' => ∃ p c, e = .returned (.tuple #[.slice p 64 c, .int .i64 0]) ∧ IsVec (fun k => W.heap.size ≤ k) w' 5 1 (.slice p 64 c) 64 (bys (d.read ((X + i : Nat) : Int)).1) ∧ Mod nil W w') := Lib.hid (fun W i m hi => by
    have h := diskRead db bl bm C d ((X + i : Nat) : Int) W (hd.modNil m)
    rw [read_ok d (X + i) hdn (by omega), HLEN.out i hi] at h
    rw [show ((X : Int) + (i : Int)) = ((X + i : Nat) : Int) by simp]
    refine h.mono ?_
    rintro e w' ⟨v, rfl, hv, hm⟩
    obtain ⟨p, c, rfl⟩ := hv.form
    exact ⟨p, c, rfl, hv, hm⟩)
  have HC := Lib.hid hc
  clear hd hdn hN hX hh hXN hc
  obtain ⟨B, hB⟩ : ∃ B, w.heap.size = B := ⟨_, rfl⟩
  have HB := Lib.hid hB
  clear hB
  go_enter Try.func18, Try.ntmps18
  go_wp2_with fail
  refine (HSZ.out w (Mod.refl _ _)).mono ?_
  rintro e w' ⟨rfl, rfl⟩
  go_wp2_with fail
  go_loopw [5, 11] (fun v5 v11 wr => ∃ (i k : Nat) (q : Option Addr) (c : Nat), i ≤ N ∧ v11 = .int .i64 i ∧ v5 = .slice q k c ∧ k ≤ 262144 ∧ Hid (k = 64 * i) ∧ Hid (IsVec (fun k => B ≤ k) wr 5 1 (.slice q k c) k (bys (sectorsAt d X i))) ∧ Hid (Mod nil w wr)) (fun _ v _ => N - (intOf v).toNat)
  case atStart => exact ⟨0, 0, none, 0, by omega, rfl, rfl, by omega, Lib.hid rfl, Lib.hid (IsVec.nil _ _ _ _), Lib.hid (Mod.refl _ _)⟩
  case round =>
    obtain ⟨i, k, q, c, hi, rfl, rfl, hk, HK, HVR, HMR⟩ := hrel
    by_cases hlt : i < N
    · have c1 := cell_kept HC.out HMR.out (World.block_lt_of_cell? _ _ HC.out) (not_nil _)
      have hlk : (sectorsAt d X i).length = k := by rw [sectorsAt_length d X i (fun j hj => HLEN.out j (by omega)), HK.out]
      have hXi : IntKind.i64.wrap ((X : Int) + (i : Int)) = (X : Int) + (i : Int) := by rw [IntKind.wrap_i64]; omega
      have HLK := Lib.hid hlk
      have hc1l := World.block_lt_of_cell? _ _ c1
      clear hlk
      go_upto_region 5 with (fail)
      go_region_held3 (fun w' => w'.cell? ⟨jb, 1, none⟩ = some (.pointer (some ⟨db, 0, none⟩))) (first | exact c1 | exact c1q) (first
        | (go_at_call 26; refine (HRD.out _ i ?_ hlt).mono ?_; exact HMR.out.thenNil (by (repeat (refine Mod.drew ?_)); exact Mod.refl nil wr); rintro e wq ⟨pq, cq, rfl, hvq, hmq⟩; have hmq' := (by (repeat (refine Mod.drew ?_)); exact Mod.refl nil wr : Mod nil wr _).thenNil hmq; have c1q := cell_kept c1 hmq' hc1l (not_nil _))
        | (go_at_call 24; refine (HSZ.out _ ?_).mono ?_; exact HMR.out.thenNil (by (repeat (refine Mod.drew ?_)); exact Mod.refl nil wr); rintro e w' ⟨rfl, rfl⟩))
      obtain ⟨v7, w7, hrun, hv7, hm7⟩ := bytes_append (l := sectorsAt d X i) (m := (d.read ((X + i : Nat) : Int)).1) 33 (by rw [HLK.out]; exact HVR.out.modNil hmq') hvq.row (by rw [HLK.out, HLEN.out i hlt]; omega)
      have hl7 : (sectorsAt d X i ++ (d.read ((X + i : Nat) : Int)).1).length = k + 64 := by rw [List.length_append, HLK.out, HLEN.out i hlt]
      rw [hl7] at hv7
      obtain ⟨p7, c7, rfl⟩ := hv7.form
      have hsz := hmq'.size
      have HRUN := Lib.hid hrun
      have HV7 : Hid (IsVec (fun k => B ≤ k) w7 5 1 (.slice p7 (k + 64) c7) (k + 64) (bys (sectorsAt d X (i + 1)))) := Lib.hid (hv7.mono (fun j _ h => h.elim id (fun h => by have := HMR.out.size; have := HB.out; omega)))
      have HM7 : Hid (Mod nil w w7) := Lib.hid ((HMR.out.thenNil hmq').new hm7 (fun j h => by have := HB.out; omega))
      clear hrun hv7 hm7 hl7 hvq hmq hmq' c1 c1q
      go_wp2_with (first | (at_builtin; refine wpList_append_run rfl _ _ _ _ rfl rfl rfl HRUN.out ?_))
      exact ⟨⟨i + 1, k + 64, p7, c7, by omega, by go_num, rfl, by have := HK.out; omega, Lib.hid (by have := HK.out; omega), HV7, HM7⟩, by simp [intOf]; omega⟩
    · obtain rfl : i = N := by omega
      obtain rfl : k = 64 * i := HK.out
      have HEND : Hid (Post (.returned (.slice q (64 * i) c)) wr) := Lib.hid (HPOST.out _ _ ⟨_, rfl, HVR.out.mono (fun k _ h => by have := HB.out; omega), HMR.out⟩)
      clear HVR HMR HK
      go_wp2_with fail
      exact HEND.out
end Go.Proofs.Ytlkphkkjpjlnhaa

/- cflref27.Events. -/
import Derived.Test.YtlkhihdgaimboaaRefTaleC
namespace Go.Proofs.Ytlkhihdgaimboaa
open Go.RowKit
set_option maxRecDepth 100000 in
set_option maxHeartbeats 2000000 in
theorem refEvents (T : Nat → Prop) (p0 : Option Addr) (len cap : Nat) (b : List UInt8) (n : Int) (w : World) (hrow : IsRow T w (.slice p0 len cap) (bys b)) (hl : b.length ≤ 1099511627776) :
    Calls Try.prog 18 #[.slice p0 len cap, .int .i64 n] w fun e w' => ∃ v' es, e = .returned v' ∧ Evd (fun k => w.heap.size ≤ k) w' v' (eventsAll b n).length es (eventsAll b n) ∧ Mod nil w w' := by
  refine (?_ : ∀ Post : Ending → World → Prop, Hid (∀ e w', (∃ v' es, e = .returned v' ∧ Evd (fun k => w.heap.size ≤ k) w' v' (eventsAll b n).length es (eventsAll b n) ∧ Mod nil w w') → Post e w') → Calls Try.prog 18 #[.slice p0 len cap, .int .i64 n] w Post) _ (Lib.hid (fun _ _ h => h))
  intro Post HPOST
  have HROW := Lib.hid hrow
  obtain rfl : len = b.length := by
    obtain ⟨_, _, h, _⟩ := hrow
    simp only [Value.slice.injEq, bys_length] at h
    exact h.2.1
  obtain ⟨L, hL⟩ : ∃ L, b.length = L := ⟨_, rfl⟩
  rw [hL] at HROW hl ⊢
  have HLB := Lib.hid hL
  clear hrow hL
  by_cases hn : 2 ≤ n ∧ n ≤ 16
  case neg =>
    have hall : eventsAll b n = [] := by unfold eventsAll; rw [if_neg hn]
    have HALL := Lib.hid hall
    clear hall
    rcases (show n < 2 ∨ (¬ n < 2 ∧ 16 < n) by omega) with h | ⟨h, h'⟩
    all_goals
      clear hn
      go_enter Try.func18, Try.ntmps18
      go_wp2_with fail
      exact HPOST.out _ _ ⟨_, [], rfl, by rw [HALL.out]; exact ⟨IsVec.nil _ _ _ _, trivial⟩, Mod.refl _ _⟩
  case pos =>
  obtain ⟨nn, rfl⟩ : ∃ nn : Nat, n = nn := ⟨n.toNat, by omega⟩
  obtain ⟨K, hK⟩ : ∃ K, min (L / 4) 400 = K := ⟨_, rfl⟩
  have HALL : Hid (eventsAll b (nn : Int) = eventsTo b nn K) := Lib.hid (by unfold eventsAll; rw [if_pos hn, HLB.out, hK]; rfl)
  have hn2 : ¬ (nn : Int) < 2 := by omega
  have hn16 : ¬ (16 : Int) < (nn : Int) := by omega
  have hk400 : K ≤ 400 := by omega
  have hk4 : 4 * K ≤ L := by omega
  have hkk : K < 400 → L < 4 * K + 4 := by omega
  have hnn2 : 2 ≤ nn := by omega
  have hnn16 : nn ≤ 16 := by omega
  clear hK hn
  obtain ⟨g, hg⟩ : ∃ g, w.heap.size = g := ⟨_, rfl⟩
  have HG := Lib.hid hg
  clear hg
  go_enter Try.func18, Try.ntmps18
  go_wp2_with fail
  go_loopw [5, 6] (fun v5 v6 wr => ∃ (i : Nat) (p : Option Addr) (q : Nat) (es : List Ev), i ≤ K ∧ v6 = .int .i64 i ∧ v5 = .slice p i q ∧ Hid (Evd (fun k => g ≤ k) wr (.slice p i q) i es (eventsTo b nn i)) ∧ Hid (Mod nil w wr)) (fun _ v6 _ => K - (intOf v6).toNat)
  case atStart => exact ⟨0, none, 0, [], by omega, rfl, rfl, Lib.hid ⟨IsVec.nil _ _ _ _, trivial⟩, Lib.hid (Mod.refl _ _)⟩
  case round =>
    obtain ⟨i, p, q, es, hi, rfl, rfl, HVR, HMR⟩ := hrel
    by_cases hlt : i < K
    · have t1 : decide ((4 : Int) * (i : Int) + 3 < (L : Int)) = true := by simp; omega
      have t1' : (4 : Int) * (i : Int) + 3 < (L : Int) := by omega
      have t2' : i < 400 := by omega
      obtain ⟨gb, o, rfl, hgb⟩ : ∃ gb o, p0 = some ⟨gb, o, none⟩ ∧ gb < w.heap.size := by
        obtain ⟨p', c', hp, hc⟩ := HROW.out
        obtain ⟨b', o', h1, _, h3, _⟩ := hc 0 (by rw [bys_length, HLB.out]; omega)
        simp only [Value.slice.injEq] at hp
        obtain ⟨rfl, -, -⟩ := hp
        exact ⟨b', o', h1, h3⟩
      have hra : ∀ j, j < 4 → wr.cell? ⟨gb, o + (4 * i + j), none⟩ = some (.int .u8 (b.getD (4 * i + j) 0).toNat) := fun j hj => by
        obtain ⟨p', c', hp, hc⟩ := HROW.out
        obtain ⟨b', o', h1, _, h3, h4⟩ := hc (4 * i + j) (by rw [bys_length, HLB.out]; omega)
        simp only [Value.slice.injEq] at hp
        obtain ⟨rfl, -, -⟩ := hp
        simp only [Option.some.injEq, Addr.mk.injEq, and_true] at h1
        obtain ⟨rfl, rfl⟩ := h1
        rw [bys_getD _ _ (by rw [HLB.out]; omega)] at h4
        exact cell_kept h4 HMR.out h3 (not_nil _)
      have a0 := hra 0 (by omega)
      have a1 := hra 1 (by omega)
      have a2 := hra 2 (by omega)
      have a3 := hra 3 (by omega)
      rw [Nat.add_zero] at a0
      clear hra
      have hev : eventOf ((b.drop (4 * i)).take 4) nn = eventOf [b.getD (4 * i) 0, b.getD (4 * i + 1) 0, b.getD (4 * i + 2) 0, b.getD (4 * i + 3) 0] nn := eventOf_congr _ _ _ (fun j hj => by
        have h1 : ((b.drop (4 * i)).take 4).getD j 0 = b.getD (4 * i + j) 0 := by simp [List.getD_eq_getElem?_getD, List.getElem?_take, List.getElem?_drop, hj]
        rw [h1]
        rcases (show j = 0 ∨ j = 1 ∨ j = 2 ∨ j = 3 by omega) with rfl | rfl | rfl | rfl <;> rfl)
      generalize b.getD (4 * i) 0 = c0 at *
      generalize b.getD (4 * i + 1) 0 = c1 at *
      generalize b.getD (4 * i + 2) 0 = c2 at *
      generalize b.getD (4 * i + 3) 0 = c3 at *
      have HEVO := Lib.hid hev
      clear hev
      have w0 : IntKind.i64.wrap (4 * (i : Int)) = 4 * (i : Int) := by rw [IntKind.wrap_i64]; omega
      have w1 : IntKind.i64.wrap (4 * (i : Int) + 1) = 4 * (i : Int) + 1 := by rw [IntKind.wrap_i64]; omega
      have w2 : IntKind.i64.wrap (4 * (i : Int) + 2) = 4 * (i : Int) + 2 := by rw [IntKind.wrap_i64]; omega
      have w3 : IntKind.i64.wrap (4 * (i : Int) + 3) = 4 * (i : Int) + 3 := by rw [IntKind.wrap_i64]; omega
      have n0 : (4 * (i : Int)).toNat = 4 * i := by omega
      have n1 : (4 * (i : Int) + 1).toNat = 4 * i + 1 := by omega
      have n2 : (4 * (i : Int) + 2).toNat = 4 * i + 2 := by omega
      have n3 : (4 * (i : Int) + 3).toNat = 4 * i + 3 := by omega
      have b0 : 4 * (i : Int) < (L : Int) := by omega
      have b1 : 4 * (i : Int) + 1 < (L : Int) := by omega
      have b2 : 4 * (i : Int) + 2 < (L : Int) := by omega
      have z0 : 0 ≤ 4 * (i : Int) := by omega
      have z1 : 0 ≤ 4 * (i : Int) + 1 := by omega
      have z2 : 0 ≤ 4 * (i : Int) + 2 := by omega
      have z3 : 0 ≤ 4 * (i : Int) + 3 := by omega
      go_upto_region 7 with (fail)
      refine wp_region_held_drew (S := fun w' => w'.cell? ⟨gb, o + 4 * i, none⟩ = some (.int .u8 c0.toNat) ∧ w'.cell? ⟨gb, o + (4 * i + 1), none⟩ = some (.int .u8 c1.toNat) ∧ w'.cell? ⟨gb, o + (4 * i + 2), none⟩ = some (.int .u8 c2.toNat) ∧ w'.cell? ⟨gb, o + (4 * i + 3), none⟩ = some (.int .u8 c3.toNat)) (by kernel_rfl) (⟨a0, a1, a2, a3⟩) (fun hHeld => ?_)
      refine wpAnyH_take (i := 0) (v := ?_) rfl (by kernel_rfl) (by kernel_rfl) (by kernel_rfl) (fun _ _ _ h => h) (Or.inl ⟨by kernel_rfl, ?_⟩) (by assumption) ?_
      rotate_left
      · intro w hSw; (try dsimp only at hSw); (first | (go_simp; done) | (go_simp; with_reducible rfl))
      (try simp only [Act.put, List.getElem_toArray, List.getElem_cons_succ, List.getElem_cons_zero, List.setIfInBounds_toArray, List.set_cons_succ, List.set_cons_zero])
      refine wpAnyH_take (i := 1) (v := ?_) rfl (by kernel_rfl) (by kernel_rfl) (by kernel_rfl) (fun _ _ _ h => h) (Or.inl ⟨by kernel_rfl, ?_⟩) (by assumption) ?_
      rotate_left
      · intro w hSw; (try dsimp only at hSw); (first | (go_simp; done) | (go_simp; with_reducible rfl))
      (try simp only [Act.put, List.getElem_toArray, List.getElem_cons_succ, List.getElem_cons_zero, List.setIfInBounds_toArray, List.set_cons_succ, List.set_cons_zero])
      refine wpAnyH_take (i := 2) (v := ?_) rfl (by kernel_rfl) (by kernel_rfl) (by kernel_rfl) (fun _ _ _ h => h) (Or.inl ⟨by kernel_rfl, ?_⟩) (by assumption) ?_
      rotate_left
      · intro w hSw; (try dsimp only at hSw); (first | (go_simp; done) | (go_simp; with_reducible rfl))
      (try simp only [Act.put, List.getElem_toArray, List.getElem_cons_succ, List.getElem_cons_zero, List.setIfInBounds_toArray, List.set_cons_succ, List.set_cons_zero])
      refine wpAnyH_take (i := 3) (v := ?_) rfl (by kernel_rfl) (by kernel_rfl) (by kernel_rfl) (fun _ _ _ h => h) (Or.inl ⟨by kernel_rfl, ?_⟩) (by assumption) ?_
      rotate_left
      · intro w hSw; (try dsimp only at hSw); (first | (go_simp; done) | (go_simp; with_reducible rfl))
      (try simp only [Act.put, List.getElem_toArray, List.getElem_cons_succ, List.getElem_cons_zero, List.setIfInBounds_toArray, List.set_cons_succ, List.set_cons_zero])
      refine wpAnyH_take (i := 4) (v := ?_) rfl (by kernel_rfl) (by kernel_rfl) (by kernel_rfl) (fun _ _ _ h => h) (Or.inl ⟨by kernel_rfl, ?_⟩) (by assumption) ?_
      rotate_left
      · intro w hSw; (try dsimp only at hSw); (first | (go_simp; done) | (go_simp; with_reducible rfl))
      (try simp only [Act.put, List.getElem_toArray, List.getElem_cons_succ, List.getElem_cons_zero, List.setIfInBounds_toArray, List.set_cons_succ, List.set_cons_zero])
      refine wpAnyH_take (i := 5) (v := ?_) rfl (by kernel_rfl) (by kernel_rfl) (by kernel_rfl) (fun _ _ _ h => h) (Or.inl ⟨by kernel_rfl, ?_⟩) (by assumption) ?_
      rotate_left
      · intro w hSw; (try dsimp only at hSw); (first | (go_simp; done) | (go_simp; with_reducible rfl))
      (try simp only [Act.put, List.getElem_toArray, List.getElem_cons_succ, List.getElem_cons_zero, List.setIfInBounds_toArray, List.set_cons_succ, List.set_cons_zero])
      refine wpAnyH_take (i := 6) (v := ?_) rfl (by kernel_rfl) (by kernel_rfl) (by kernel_rfl) (fun _ _ _ h => h) (Or.inl ⟨by kernel_rfl, ?_⟩) (by assumption) ?_
      rotate_left
      · intro w hSw; (try dsimp only at hSw); (first | (go_simp; done) | (go_simp; with_reducible rfl))
      (try simp only [Act.put, List.getElem_toArray, List.getElem_cons_succ, List.getElem_cons_zero, List.setIfInBounds_toArray, List.set_cons_succ, List.set_cons_zero])
      refine wpAnyH_take (i := 7) (v := ?_) rfl (by kernel_rfl) (by kernel_rfl) (by kernel_rfl) (fun _ _ _ h => h) (Or.inl ⟨by kernel_rfl, ?_⟩) (by assumption) ?_
      rotate_left
      · intro w hSw; (try dsimp only at hSw); (first | (go_simp; done) | (go_simp; with_reducible rfl))
      (try simp only [Act.put, List.getElem_toArray, List.getElem_cons_succ, List.getElem_cons_zero, List.setIfInBounds_toArray, List.set_cons_succ, List.set_cons_zero])
      refine wpAnyH_take (i := 8) (v := ?_) rfl (by kernel_rfl) (by kernel_rfl) (by kernel_rfl) (fun _ _ _ h => h) (Or.inl ⟨by kernel_rfl, ?_⟩) (by assumption) ?_
      rotate_left
      · intro w hSw; (try dsimp only at hSw); (first | (go_simp; done) | (go_simp; with_reducible rfl))
      (try simp only [Act.put, List.getElem_toArray, List.getElem_cons_succ, List.getElem_cons_zero, List.setIfInBounds_toArray, List.set_cons_succ, List.set_cons_zero])
      refine wpAnyH_take (i := 9) (v := ?_) rfl (by kernel_rfl) (by kernel_rfl) (by kernel_rfl) (fun _ _ _ h => h) (Or.inl ⟨by kernel_rfl, ?_⟩) (by assumption) ?_
      rotate_left
      · intro w hSw; (try dsimp only at hSw); (first | (go_simp; done) | (go_simp; with_reducible rfl))
      (try simp only [Act.put, List.getElem_toArray, List.getElem_cons_succ, List.getElem_cons_zero, List.setIfInBounds_toArray, List.set_cons_succ, List.set_cons_zero])
      refine wpAnyH_take (i := 10) (v := ?_) rfl (by kernel_rfl) (by kernel_rfl) (by kernel_rfl) (fun _ _ _ h => h) (Or.inl ⟨by kernel_rfl, ?_⟩) (by assumption) ?_
      rotate_left
      · intro w hSw; (try dsimp only at hSw); (first | (go_simp; done) | (go_simp; with_reducible rfl))
      (try simp only [Act.put, List.getElem_toArray, List.getElem_cons_succ, List.getElem_cons_zero, List.setIfInBounds_toArray, List.set_cons_succ, List.set_cons_zero])
      refine wpAnyH_take (i := 11) (v := ?_) rfl (by kernel_rfl) (by kernel_rfl) (by kernel_rfl) (fun _ _ _ h => h) (Or.inl ⟨by kernel_rfl, ?_⟩) (by assumption) ?_
      rotate_left
      · intro w hSw; (try dsimp only at hSw); (first | (go_simp; done) | (go_simp; with_reducible rfl))
      (try simp only [Act.put, List.getElem_toArray, List.getElem_cons_succ, List.getElem_cons_zero, List.setIfInBounds_toArray, List.set_cons_succ, List.set_cons_zero])
      refine wpAnyH_take (i := 12) (v := ?_) rfl (by kernel_rfl) (by kernel_rfl) (by kernel_rfl) (fun _ _ _ h => h) (Or.inl ⟨by kernel_rfl, ?_⟩) (by assumption) ?_
      rotate_left
      · intro w hSw; (try dsimp only at hSw); (first | (go_simp; done) | (go_simp; with_reducible rfl))
      (try simp only [Act.put, List.getElem_toArray, List.getElem_cons_succ, List.getElem_cons_zero, List.setIfInBounds_toArray, List.set_cons_succ, List.set_cons_zero])
      refine wpAnyH_take (i := 13) (v := ?_) rfl (by kernel_rfl) (by kernel_rfl) (by kernel_rfl) (fun _ _ _ h => h) (Or.inl ⟨by kernel_rfl, ?_⟩) (by assumption) ?_
      rotate_left
      · intro w hSw; (try dsimp only at hSw); (first | (go_simp; done) | (go_simp; with_reducible rfl))
      (try simp only [Act.put, List.getElem_toArray, List.getElem_cons_succ, List.getElem_cons_zero, List.setIfInBounds_toArray, List.set_cons_succ, List.set_cons_zero])
      refine wpAnyH_take (i := 14) (v := ?_) rfl (by kernel_rfl) (by kernel_rfl) (by kernel_rfl) (fun _ _ _ h => h) (Or.inl ⟨by kernel_rfl, ?_⟩) (by assumption) ?_
      rotate_left
      · intro w hSw; (try dsimp only at hSw); (first | (go_simp; done) | (go_simp; with_reducible rfl))
      (try simp only [Act.put, List.getElem_toArray, List.getElem_cons_succ, List.getElem_cons_zero, List.setIfInBounds_toArray, List.set_cons_succ, List.set_cons_zero])
      refine wpAnyH_take (i := 15) (v := ?_) rfl (by kernel_rfl) (by kernel_rfl) (by kernel_rfl) (fun _ _ _ h => h) (Or.inl ⟨by kernel_rfl, ?_⟩) (by assumption) ?_
      rotate_left
      · intro w hSw; (try dsimp only at hSw); (first | (go_simp; done) | (go_simp; with_reducible rfl))
      (try simp only [Act.put, List.getElem_toArray, List.getElem_cons_succ, List.getElem_cons_zero, List.setIfInBounds_toArray, List.set_cons_succ, List.set_cons_zero])
      refine wpAnyH_take (i := 16) (v := ?_) rfl (by kernel_rfl) (by kernel_rfl) (by kernel_rfl) (fun _ _ _ h => h) (Or.inl ⟨by kernel_rfl, ?_⟩) (by assumption) ?_
      rotate_left
      · intro w hSw; (try dsimp only at hSw); (first | (go_simp; done) | (go_simp; with_reducible rfl))
      (try simp only [Act.put, List.getElem_toArray, List.getElem_cons_succ, List.getElem_cons_zero, List.setIfInBounds_toArray, List.set_cons_succ, List.set_cons_zero])
      refine wpAnyH_take (i := 17) (v := ?_) rfl (by kernel_rfl) (by kernel_rfl) (by kernel_rfl) (fun _ _ _ h => h) (Or.inl ⟨by kernel_rfl, ?_⟩) (by assumption) ?_
      rotate_left
      · intro w hSw; (try dsimp only at hSw); (first | (go_simp; done) | (go_simp; with_reducible rfl))
      (try simp only [Act.put, List.getElem_toArray, List.getElem_cons_succ, List.getElem_cons_zero, List.setIfInBounds_toArray, List.set_cons_succ, List.set_cons_zero])
      refine wpAnyH_take (i := 18) (v := ?_) rfl (by kernel_rfl) (by kernel_rfl) (by kernel_rfl) (fun _ _ _ h => h) (Or.inl ⟨by kernel_rfl, ?_⟩) (by assumption) ?_
      rotate_left
      · intro w hSw; (try dsimp only at hSw); (first | (go_simp; done) | (go_simp; with_reducible rfl))
      (try simp only [Act.put, List.getElem_toArray, List.getElem_cons_succ, List.getElem_cons_zero, List.setIfInBounds_toArray, List.set_cons_succ, List.set_cons_zero])
      refine wpAnyH_take (i := 19) (v := ?_) rfl (by kernel_rfl) (by kernel_rfl) (by kernel_rfl) (fun _ _ _ h => h) (Or.inl ⟨by kernel_rfl, ?_⟩) (by assumption) ?_
      rotate_left
      · intro w hSw; (try dsimp only at hSw); (first | (go_simp; done) | (go_simp; with_reducible rfl))
      (try simp only [Act.put, List.getElem_toArray, List.getElem_cons_succ, List.getElem_cons_zero, List.setIfInBounds_toArray, List.set_cons_succ, List.set_cons_zero])
      refine wpAnyH_take (i := 20) (v := ?_) rfl (by kernel_rfl) (by kernel_rfl) (by kernel_rfl) (fun _ _ _ h => h) (Or.inl ⟨by kernel_rfl, ?_⟩) (by assumption) ?_
      rotate_left
      · intro w hSw; (try dsimp only at hSw); (first | (go_simp; done) | (go_simp; with_reducible rfl))
      (try simp only [Act.put, List.getElem_toArray, List.getElem_cons_succ, List.getElem_cons_zero, List.setIfInBounds_toArray, List.set_cons_succ, List.set_cons_zero])
      refine wpAnyH_take (i := 21) (v := ?_) rfl (by kernel_rfl) (by kernel_rfl) (by kernel_rfl) (fun _ _ _ h => h) (Or.inl ⟨by kernel_rfl, ?_⟩) (by assumption) ?_
      rotate_left
      · intro w hSw; (try dsimp only at hSw); (first | (go_simp; done) | (go_simp; with_reducible rfl))
      (try simp only [Act.put, List.getElem_toArray, List.getElem_cons_succ, List.getElem_cons_zero, List.setIfInBounds_toArray, List.set_cons_succ, List.set_cons_zero])
      refine wpAnyH_take (i := 22) (v := ?_) rfl (by kernel_rfl) (by kernel_rfl) (by kernel_rfl) (fun _ _ _ h => h) (Or.inl ⟨by kernel_rfl, ?_⟩) (by assumption) ?_
      rotate_left
      · intro w hSw; (try dsimp only at hSw); (first | (go_simp; done) | (go_simp; with_reducible rfl))
      (try simp only [Act.put, List.getElem_toArray, List.getElem_cons_succ, List.getElem_cons_zero, List.setIfInBounds_toArray, List.set_cons_succ, List.set_cons_zero])
      refine wpAnyH_take (i := 23) (v := ?_) rfl (by kernel_rfl) (by kernel_rfl) (by kernel_rfl) (fun _ _ _ h => h) (Or.inl ⟨by kernel_rfl, ?_⟩) (by assumption) ?_
      rotate_left
      · intro w hSw; (try dsimp only at hSw); (first | (go_simp; done) | (go_simp; with_reducible rfl))
      (try simp only [Act.put, List.getElem_toArray, List.getElem_cons_succ, List.getElem_cons_zero, List.setIfInBounds_toArray, List.set_cons_succ, List.set_cons_zero])
      refine wpAnyH_take (i := 24) (v := ?_) rfl (by kernel_rfl) (by kernel_rfl) (by kernel_rfl) (fun _ _ _ h => h) (Or.inl ⟨by kernel_rfl, ?_⟩) (by assumption) ?_
      rotate_left
      · intro w hSw; (try dsimp only at hSw); (first | (go_simp; done) | (go_simp; with_reducible rfl))
      (try simp only [Act.put, List.getElem_toArray, List.getElem_cons_succ, List.getElem_cons_zero, List.setIfInBounds_toArray, List.set_cons_succ, List.set_cons_zero])
      refine wpAnyH_ready (rs := [25]) (by kernel_rfl) (by simp) ?_
      refine AllReadyH.cons (i := 25) rfl (fun K hK => ?_) AllReadyH.nil
      (try dsimp (config := { proj := false }) only [List.getElem_toArray, List.getElem_cons_succ, List.getElem_cons_zero])
      go_simp
      refine (refEvent c0 c1 c2 c3 nn _ (by omega) (by omega)).mono ?_
      rintro e wB ⟨ev, rfl, hev, hmB⟩
      have hmB' : Mod nil wr wB := (by (repeat (refine Mod.drew ?_)); exact Mod.refl nil wr : Mod nil wr _).thenNil hmB
      have hb0 := cell_kept a0 hmB' (World.block_lt_of_cell? _ _ a0) (not_nil _)
      have hb1 := cell_kept a1 hmB' (World.block_lt_of_cell? _ _ a1) (not_nil _)
      have hb2 := cell_kept a2 hmB' (World.block_lt_of_cell? _ _ a2) (not_nil _)
      have hb3 := cell_kept a3 hmB' (World.block_lt_of_cell? _ _ a3) (not_nil _)
      have HEV : Hid (EvIs (fun k => wr.heap.size ≤ k) wB ev (eventOf [c0, c1, c2, c3] nn)) := Lib.hid hev
      have HMB := Lib.hid hmB'
      clear hev hmB hmB'
      obtain ⟨k1, k2, k3, k4, px, nx, cx, py, ny, cy, hvals⟩ : ∃ k1 k2 k3 k4 px nx cx py ny cy, ev.vals = [.int .i64 k1, .int .i64 k2, .int .i64 k3, .int .i64 k4, .slice px nx cx, .slice py ny cy, .int .i64 0, .slice none 0 0, .slice none 0 0, .string ⟨#[]⟩, .int .i64 0, .int .i64 0, .int .i64 0, .slice none 0 0, .string ⟨#[]⟩] := by
        obtain ⟨q1, q2, q3, q4, qx, qy⟩ := ev
        obtain ⟨_, _, _, _, ⟨px, cx, h1, _⟩, ⟨py, cy, h2, _⟩⟩ := HEV.out
        simp only at h1 h2
        subst h1 h2
        exact ⟨_, _, _, _, _, _, _, _, _, _, rfl⟩
      rw [hvals]
      have HVALS := Lib.hid hvals
      clear hvals
      have HMC : Hid (Mod nil wB (wB.alloc (.cells #[.int .i64 k1, .int .i64 k2, .int .i64 k3, .int .i64 k4, .slice px nx cx, .slice py ny cy, .int .i64 0, .slice none 0 0, .slice none 0 0, .string ⟨#[]⟩, .int .i64 0, .int .i64 0, .int .i64 0, .slice none 0 0, .string ⟨#[]⟩] 32))) := Lib.hid ((Mod.refl _ _).alloc _)
      have HMWC : Hid (Mod nil wr (wB.alloc (.cells #[.int .i64 k1, .int .i64 k2, .int .i64 k3, .int .i64 k4, .slice px nx cx, .slice py ny cy, .int .i64 0, .slice none 0 0, .slice none 0 0, .string ⟨#[]⟩, .int .i64 0, .int .i64 0, .int .i64 0, .slice none 0 0, .string ⟨#[]⟩] 32))) := Lib.hid (HMB.out.thenNil HMC.out)
      have HC1 := Lib.hid (cells_at wB 32 [.int .i64 k1, .int .i64 k2, .int .i64 k3, .int .i64 k4, .slice px nx cx, .slice py ny cy, .int .i64 0, .slice none 0 0, .slice none 0 0, .string ⟨#[]⟩, .int .i64 0, .int .i64 0, .int .i64 0, .slice none 0 0, .string ⟨#[]⟩] 1 1 _ rfl)
      go_wp2_with fail
      refine hK.out _ _ ⟨hb0, hb1, hb2, hb3⟩ (fun hHeld => ?_)
      clear hK K
      (try simp only [Act.put, List.setIfInBounds_toArray, List.set_cons_zero, List.set_cons_succ])
      (try simp only [List.set_cons_succ, List.set_cons_zero])
      refine wpAnyH_ready (rs := [26]) (by kernel_rfl) (by simp) ?_
      refine AllReadyH.cons (i := 26) rfl (fun K hK => ?_) AllReadyH.nil
      (try dsimp (config := { proj := false }) only [List.getElem_toArray, List.getElem_cons_succ, List.getElem_cons_zero])
      have hc0 := cell_kept a0 HMWC.out (World.block_lt_of_cell? _ _ a0) (not_nil _)
      have hc1 := cell_kept a1 HMWC.out (World.block_lt_of_cell? _ _ a1) (not_nil _)
      have hc2 := cell_kept a2 HMWC.out (World.block_lt_of_cell? _ _ a2) (not_nil _)
      have hc3 := cell_kept a3 HMWC.out (World.block_lt_of_cell? _ _ a3) (not_nil _)
      go_simp
      refine hK.out _ _ ⟨hc0, hc1, hc2, hc3⟩ (fun hHeld => ?_)
      clear hK K
      (try simp only [Act.put, List.setIfInBounds_toArray, List.set_cons_zero, List.set_cons_succ])
      (try simp only [List.set_cons_succ, List.set_cons_zero])
      refine wpAnyH_ready (rs := [27]) (by kernel_rfl) (by simp) ?_
      refine AllReadyH.cons (i := 27) rfl (fun K hK => ?_) AllReadyH.nil
      (try dsimp (config := { proj := false }) only [List.getElem_toArray, List.getElem_cons_succ, List.getElem_cons_zero])
      obtain ⟨i0, hi0, hz0, hz1, hz2⟩ := info_parts info_event
      refine step_append_vec (S := fun k => (Value.slice p i q).ownBlock = some k) rfl (.tmp 25) (.tmp 51) 24 rfl 32 i0 (.agg #[.int .i64 0, .int .i64 0, .int .i64 0, .int .i64 0, .slice none 0 0, .slice none 0 0, .int .i64 0, .slice none 0 0, .slice none 0 0, .string ⟨#[]⟩, .int .i64 0, .int .i64 0, .int .i64 0, .slice none 0 0, .string ⟨#[]⟩]) 15 216 Try.underlying24 hi0 hz0 hz1 hz2 rfl (by omega) (.slice p i q) i (evs es) rfl (HVR.out.1.modNil HMWC.out).own _ 1 [.int .i64 k1, .int .i64 k2, .int .i64 k3, .int .i64 k4, .slice px nx cx, .slice py ny cy, .int .i64 0, .slice none 0 0, .slice none 0 0, .string ⟨#[]⟩, .int .i64 0, .int .i64 0, .int .i64 0, .slice none 0 0, .string ⟨#[]⟩] rfl HC1.out rfl (by rw [← HVALS.out]; exact one_vals ev HEV.out) (by unfold maxLen; omega) (by omega) ?_
      intro v7 w7 hv7 hm7
      obtain ⟨p7, q7, rfl⟩ := hv7.form
      have HV7 : Hid (Evd (fun k => g ≤ k) w7 (.slice p7 (i + 1) q7) (i + 1) (es ++ [ev]) (eventsTo b nn i ++ [eventOf [c0, c1, c2, c3] nn])) := Lib.hid (evd_snoc HVR.out HMB.out HEV.out HMC.out (by rw [HVALS.out]; exact hv7) hm7 (fun k hk => by have := HG.out; have := HMR.out.size; omega))
      have hm7' : Mod nil w w7 := (HMR.out.thenNil HMWC.out).new hm7 (fun k hk => by have := HVR.out.1.2 k hk; have := HG.out; omega)
      have HM7 := Lib.hid hm7'
      have hx0 := cell_kept hc0 hm7 (World.block_lt_of_cell? _ _ hc0) (fun hk => by have := HVR.out.1.2 _ hk; have := HG.out; omega)
      have hx1 := cell_kept hc1 hm7 (World.block_lt_of_cell? _ _ hc1) (fun hk => by have := HVR.out.1.2 _ hk; have := HG.out; omega)
      have hx2 := cell_kept hc2 hm7 (World.block_lt_of_cell? _ _ hc2) (fun hk => by have := HVR.out.1.2 _ hk; have := HG.out; omega)
      have hx3 := cell_kept hc3 hm7 (World.block_lt_of_cell? _ _ hc3) (fun hk => by have := HVR.out.1.2 _ hk; have := HG.out; omega)
      clear hv7 hm7 hm7' hi0 hz0 hz1 hz2
      refine hK.out _ _ ⟨hx0, hx1, hx2, hx3⟩ (fun hHeld => ?_)
      clear hK K
      (try simp only [Act.put, List.setIfInBounds_toArray, List.set_cons_zero, List.set_cons_succ])
      (try simp only [List.set_cons_succ, List.set_cons_zero])
      refine wpAnyH_ready (rs := [28]) (by kernel_rfl) (by simp) ?_
      refine AllReadyH.cons (i := 28) rfl (fun K hK => ?_) AllReadyH.nil
      (try dsimp (config := { proj := false }) only [List.getElem_toArray, List.getElem_cons_succ, List.getElem_cons_zero])
      go_simp
      refine hK.out _ _ ⟨hx0, hx1, hx2, hx3⟩ (fun hHeld => ?_)
      clear hK K
      (try simp only [Act.put, List.setIfInBounds_toArray, List.set_cons_zero, List.set_cons_succ])
      (try simp only [List.set_cons_succ, List.set_cons_zero])
      refine wpAnyH_done (by kernel_rfl) ?_ _
      go_wp2_with fail
      exact ⟨⟨i + 1, p7, q7, es ++ [ev], by omega, by go_num, rfl, Lib.hid (by rw [show eventsTo b nn (i + 1) = eventsTo b nn i ++ [eventOf ((b.drop (4 * i)).take 4) nn] by simp [eventsTo, List.range_succ], HEVO.out]; exact HV7.out), HM7⟩, by simp [intOf]; omega⟩
    · obtain rfl : i = K := by omega
      have HEND : Hid (Post (.returned (.slice p i q)) wr) := Lib.hid (HPOST.out _ _ ⟨_, es, rfl, by rw [HALL.out, eventsTo_length]; exact HVR.out.mono (fun k h => by have := HG.out; omega), HMR.out⟩)
      by_cases h400 : i < 400
      · have t1 : decide ((4 : Int) * (i : Int) + 3 < (L : Int)) = false := by simp; omega
        have t1' : ¬ (4 : Int) * (i : Int) + 3 < (L : Int) := by omega
        clear HVR HMR HPOST hkk
        go_wp2_with fail
        exact HEND.out
      · obtain rfl : i = 400 := by omega
        clear HVR HMR HPOST hkk
        go_wp2_with fail
        all_goals exact HEND.out
end Go.Proofs.Ytlkhihdgaimboaa

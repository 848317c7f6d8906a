/- cflref27.SameEvents. -/
import Derived.Test.YtlkhihdgaimboaaRefTaleG
import Derived.Test.YtlkhihdgaimboaaRefTaleD
import Derived.Test.YtlkhihdgaimboaaLawTaleB
namespace Go.Proofs.Ytlkhihdgaimboaa
open Go.RowKit
theorem refSameLegs_nil (w : World) : Calls Try.prog 43 #[.slice none 0 0, .slice none 0 0] w fun e w' => e = .returned (.bool true) ∧ w = w' := by
  go_enter Try.func43, Try.ntmps43
  go_wp2_with fail
  go_loop [5] (fun v5 => v5 = .int .i64 0) (fun _ => 0)
  case atStart => rfl
  case round =>
    subst hrel
    go_wp2_with fail
    go_ret
    exact ⟨rfl, rfl⟩
theorem refInts_nil (w : World) : Calls Try.prog 23 #[.slice none 0 0, .slice none 0 0] w fun e w' => e = .returned (.bool true) ∧ ∃ n, w' = w.drewN n :=
  (refInts (fun _ => True) (fun _ => True) _ _ [] [] w ⟨none, 0, rfl, fun i hi => by simp at hi⟩ ⟨none, 0, rfl, fun i hi => by simp at hi⟩ (by simp)).mono (fun e w' ⟨h1, h2⟩ => ⟨by rw [h1]; rfl, h2⟩)
set_option maxRecDepth 100000 in
theorem refSamePlan_zero (w : World) : Calls Try.prog 30 #[.agg #[.int .i64 0, .slice none 0 0, .slice none 0 0, .string ⟨#[]⟩, .int .i64 0, .int .i64 0, .int .i64 0, .slice none 0 0], .agg #[.int .i64 0, .slice none 0 0, .slice none 0 0, .string ⟨#[]⟩, .int .i64 0, .int .i64 0, .int .i64 0, .slice none 0 0]] w fun e w' => e = .returned (.bool true) ∧ Mod nil w w' := by
  go_enter Try.func30, Try.ntmps30
  go_wp2_with fail
  refine (refInts_nil _).mono ?_
  rintro e w1 ⟨rfl, n1, rfl⟩
  go_wp2_with fail
  refine (refSameLegs_nil _).mono ?_
  rintro e w2 ⟨rfl, rfl⟩
  go_wp2_with fail
  refine (refInts_nil _).mono ?_
  rintro e w3 ⟨rfl, n3, rfl⟩
  go_wp2_with fail
  go_ret
  exact ⟨rfl, by repeat (first | exact Mod.refl _ _ | refine Mod.alloc ?_ _ | refine Mod.drew ?_ | refine Mod.drewN ?_ _)⟩
theorem all2_get {α β : Type} {R : α → β → Prop} : ∀ {l : List α} {m : List β}, All2 R l m → ∀ i, (h : i < l.length) → ∃ h' : i < m.length, R l[i] m[i]
  | a :: l, b :: m, h, 0, _ => ⟨by simp, h.1⟩
  | a :: l, b :: m, h, i + 1, hi => by
    obtain ⟨h1, h2⟩ := all2_get h.2 i (by simpa using hi)
    exact ⟨by simpa using h1, h2⟩
  | [], [], _, i, hi => absurd hi (by simp)
  | a :: l, [], h, _, _ => h.elim
  | [], b :: m, h, _, _ => h.elim
theorem evd_get {S : Nat → Prop} {w : World} {p : Option Addr} {c N : Nat} {es : List Ev} {ms : List EvM} (h : Evd S w (.slice p N c) N es ms) (i : Nat) (hi : i < N) (m : EvM) (hm : ms[i]? = some m) :
    ∃ g px cx py cy, p = some ⟨g, 0, none⟩ ∧ g < w.heap.size ∧ IsRow (fun k => S k) w (.slice px m.bytes.length cx) (bys m.bytes) ∧ IsRow (fun k => S k) w (.slice py m.keep.length cy) (bools m.keep) ∧
      ∀ j, j < 15 → w.cell? ⟨g, i * 15 + j, none⟩ = some (([.int .i64 m.k, .int .i64 m.a, .int .i64 m.b, .int .i64 m.n, .slice px m.bytes.length cx, .slice py m.keep.length cy, .int .i64 0, .slice none 0 0, .slice none 0 0, .string ⟨#[]⟩, .int .i64 0, .int .i64 0, .int .i64 0, .slice none 0 0, .string ⟨#[]⟩] : List Value).getD j undef) := by
  obtain ⟨hv, ha⟩ := h
  have hl : es.length = N := by have := hv.len; rw [evs_length] at this; omega
  obtain ⟨g, rfl, -, hg, hc⟩ := vec_block hv (by omega)
  obtain ⟨h', hr⟩ := all2_get ha i (by omega)
  rw [List.getElem?_eq_getElem h'] at hm
  cases hm
  obtain ⟨l1, l2, hsplit, hlen⟩ : ∃ l1 l2, es = l1 ++ es[i] :: l2 ∧ l1.length = i := ⟨es.take i, es.drop (i + 1), by rw [← List.drop_eq_getElem_cons, List.take_append_drop], by rw [List.length_take]; omega⟩
  generalize ms[i] = m at *
  generalize es[i] = e at *
  obtain ⟨k, a, b, n, x, y⟩ := e
  obtain ⟨e1, e2, e3, e4, e5, e6⟩ := hr
  simp only at e1 e2 e3 e4 e5 e6
  obtain ⟨px, cx, rfl, h5⟩ := id e5
  obtain ⟨py, cy, rfl, h6⟩ := id e6
  subst e1 e2 e3 e4
  simp only [bys_length, bools_length] at *
  refine ⟨g, px, cx, py, cy, rfl, hg, e5.mono (fun k _ h => h.1), e6.mono (fun k _ h => h.1), fun j hj => ?_⟩
  have hcj := hc (i * 15 + j) (by omega)
  rw [hsplit] at hcj
  rw [hcj, ← hlen, evs_at l1 l2 _ j hj]
  rfl
set_option maxRecDepth 100000 in
set_option maxHeartbeats 4000000 in
theorem refSameEvents (S T : Nat → Prop) (N c d : Nat) (p q : Option Addr) (es fs : List Ev) (ms : List EvM) (w : World) (ha : Evd S w (.slice p N c) N es ms) (hb : Evd T w (.slice q N d) N fs ms) (hN : N ≤ 100000) (hkp : ∀ m ∈ ms, m.keep.length ≤ 100000) :
    Calls Try.prog 17 #[.slice p N c, .slice q N d] w fun e w' => e = .returned (.bool true) ∧ Mod nil w w' := by
  refine (?_ : ∀ Post : Ending → World → Prop, Hid (∀ e w', (e = .returned (.bool true) ∧ Mod nil w w') → Post e w') → Calls Try.prog 17 #[.slice p N c, .slice q N d] w Post) _ (Lib.hid (fun _ _ h => h))
  intro Post HPOST
  have HA := Lib.hid ha
  have HB := Lib.hid hb
  have hml : ms.length = N := by have h1 := all2_length ha.2; have h2 := ha.1.len; rw [evs_length] at h2; omega
  have HML := Lib.hid hml
  clear ha hb hml
  go_enter Try.func17, Try.ntmps17
  go_wp2_with fail
  go_loopw [5] (fun v5 wr => ∃ i : Nat, v5 = .int .i64 i ∧ i ≤ N ∧ Hid (Mod nil w wr)) (fun v _ => N - (intOf v).toNat)
  case atStart => exact ⟨0, rfl, by omega, Lib.hid (Mod.refl _ _)⟩
  case round =>
    obtain ⟨i, rfl, hi, HMR⟩ := hrel
    by_cases hlt : i < N
    · obtain ⟨m, hm⟩ : ∃ m, ms[i]? = some m := ⟨_, List.getElem?_eq_getElem (by rw [HML.out]; exact hlt)⟩
      obtain ⟨g, px, cx, py, cy, rfl, -, hrx, hkx, hx⟩ := evd_get (HA.out.mod HMR.out (fun _ _ _ h => h)) i hlt m hm
      obtain ⟨h, qx, dx, qy, dy, rfl, -, hry, hky, hy⟩ := evd_get (HB.out.mod HMR.out (fun _ _ _ h => h)) i hlt m hm
      have hnk8 := hkp m (List.mem_of_getElem? hm)
      clear hm
      have a0 := hx 0 (by omega)
      have a1 := hx 1 (by omega)
      have a2 := hx 2 (by omega)
      have a3 := hx 3 (by omega)
      have a4 := hx 4 (by omega)
      have a5 := hx 5 (by omega)
      have a6 := hx 6 (by omega)
      have a7 := hx 7 (by omega)
      have a8 := hx 8 (by omega)
      have a9 := hx 9 (by omega)
      have a10 := hx 10 (by omega)
      have a11 := hx 11 (by omega)
      have a12 := hx 12 (by omega)
      have a13 := hx 13 (by omega)
      have a14 := hx 14 (by omega)
      have b0 := hy 0 (by omega)
      have b1 := hy 1 (by omega)
      have b2 := hy 2 (by omega)
      have b3 := hy 3 (by omega)
      have b4 := hy 4 (by omega)
      have b5 := hy 5 (by omega)
      have b6 := hy 6 (by omega)
      have b7 := hy 7 (by omega)
      have b8 := hy 8 (by omega)
      have b9 := hy 9 (by omega)
      have b10 := hy 10 (by omega)
      have b11 := hy 11 (by omega)
      have b12 := hy 12 (by omega)
      have b13 := hy 13 (by omega)
      have b14 := hy 14 (by omega)
      simp only [List.getD_cons_zero, List.getD_cons_succ, Nat.add_zero] at a0 a1 a2 a3 a4 a5 a6 a7 a8 a9 a10 a11 a12 a13 a14 b0 b1 b2 b3 b4 b5 b6 b7 b8 b9 b10 b11 b12 b13 b14
      have hgw := World.block_lt_of_cell? _ _ a0
      have hhw := World.block_lt_of_cell? _ _ b0
      generalize m.k = mk at *
      generalize m.a = ma at *
      generalize m.b = mb at *
      generalize m.n = mn at *
      obtain ⟨nb, hnb⟩ : ∃ nb, m.bytes.length = nb := ⟨_, rfl⟩
      obtain ⟨nk, hnk⟩ : ∃ nk, m.keep.length = nk := ⟨_, rfl⟩
      rw [hnb] at a4 b4 hrx hry
      rw [hnk] at a5 b5 hkx hky hnk8
      have HRX := Lib.hid hrx
      have HRY := Lib.hid hry
      have HKX := Lib.hid hkx
      have HKY := Lib.hid hky
      have HNK := Lib.hid hnk
      clear hrx hry hkx hky hnb hnk hx hy
      obtain ⟨G, hG⟩ : ∃ G, wr.heap.size = G := ⟨_, rfl⟩
      have HG := Lib.hid hG
      clear hG
      have a0a : ∀ ob, (wr.alloc ob).cell? ⟨g, i * 15, none⟩ = _ := fun ob => cell_kept a0 ((Mod.refl nil _).alloc ob) hgw (not_nil _)
      have a0b : ∀ ob ob', ((wr.alloc ob).alloc ob').cell? ⟨g, i * 15, none⟩ = _ := fun ob ob' => cell_kept a0 (((Mod.refl nil _).alloc ob).alloc ob') hgw (not_nil _)
      have a1a : ∀ ob, (wr.alloc ob).cell? ⟨g, i * 15 + 1, none⟩ = _ := fun ob => cell_kept a1 ((Mod.refl nil _).alloc ob) hgw (not_nil _)
      have a1b : ∀ ob ob', ((wr.alloc ob).alloc ob').cell? ⟨g, i * 15 + 1, none⟩ = _ := fun ob ob' => cell_kept a1 (((Mod.refl nil _).alloc ob).alloc ob') hgw (not_nil _)
      have a2a : ∀ ob, (wr.alloc ob).cell? ⟨g, i * 15 + 2, none⟩ = _ := fun ob => cell_kept a2 ((Mod.refl nil _).alloc ob) hgw (not_nil _)
      have a2b : ∀ ob ob', ((wr.alloc ob).alloc ob').cell? ⟨g, i * 15 + 2, none⟩ = _ := fun ob ob' => cell_kept a2 (((Mod.refl nil _).alloc ob).alloc ob') hgw (not_nil _)
      have a3a : ∀ ob, (wr.alloc ob).cell? ⟨g, i * 15 + 3, none⟩ = _ := fun ob => cell_kept a3 ((Mod.refl nil _).alloc ob) hgw (not_nil _)
      have a3b : ∀ ob ob', ((wr.alloc ob).alloc ob').cell? ⟨g, i * 15 + 3, none⟩ = _ := fun ob ob' => cell_kept a3 (((Mod.refl nil _).alloc ob).alloc ob') hgw (not_nil _)
      have a4a : ∀ ob, (wr.alloc ob).cell? ⟨g, i * 15 + 4, none⟩ = _ := fun ob => cell_kept a4 ((Mod.refl nil _).alloc ob) hgw (not_nil _)
      have a4b : ∀ ob ob', ((wr.alloc ob).alloc ob').cell? ⟨g, i * 15 + 4, none⟩ = _ := fun ob ob' => cell_kept a4 (((Mod.refl nil _).alloc ob).alloc ob') hgw (not_nil _)
      have a5a : ∀ ob, (wr.alloc ob).cell? ⟨g, i * 15 + 5, none⟩ = _ := fun ob => cell_kept a5 ((Mod.refl nil _).alloc ob) hgw (not_nil _)
      have a5b : ∀ ob ob', ((wr.alloc ob).alloc ob').cell? ⟨g, i * 15 + 5, none⟩ = _ := fun ob ob' => cell_kept a5 (((Mod.refl nil _).alloc ob).alloc ob') hgw (not_nil _)
      have a6a : ∀ ob, (wr.alloc ob).cell? ⟨g, i * 15 + 6, none⟩ = _ := fun ob => cell_kept a6 ((Mod.refl nil _).alloc ob) hgw (not_nil _)
      have a6b : ∀ ob ob', ((wr.alloc ob).alloc ob').cell? ⟨g, i * 15 + 6, none⟩ = _ := fun ob ob' => cell_kept a6 (((Mod.refl nil _).alloc ob).alloc ob') hgw (not_nil _)
      have a7a : ∀ ob, (wr.alloc ob).cell? ⟨g, i * 15 + 7, none⟩ = _ := fun ob => cell_kept a7 ((Mod.refl nil _).alloc ob) hgw (not_nil _)
      have a7b : ∀ ob ob', ((wr.alloc ob).alloc ob').cell? ⟨g, i * 15 + 7, none⟩ = _ := fun ob ob' => cell_kept a7 (((Mod.refl nil _).alloc ob).alloc ob') hgw (not_nil _)
      have a8a : ∀ ob, (wr.alloc ob).cell? ⟨g, i * 15 + 8, none⟩ = _ := fun ob => cell_kept a8 ((Mod.refl nil _).alloc ob) hgw (not_nil _)
      have a8b : ∀ ob ob', ((wr.alloc ob).alloc ob').cell? ⟨g, i * 15 + 8, none⟩ = _ := fun ob ob' => cell_kept a8 (((Mod.refl nil _).alloc ob).alloc ob') hgw (not_nil _)
      have a9a : ∀ ob, (wr.alloc ob).cell? ⟨g, i * 15 + 9, none⟩ = _ := fun ob => cell_kept a9 ((Mod.refl nil _).alloc ob) hgw (not_nil _)
      have a9b : ∀ ob ob', ((wr.alloc ob).alloc ob').cell? ⟨g, i * 15 + 9, none⟩ = _ := fun ob ob' => cell_kept a9 (((Mod.refl nil _).alloc ob).alloc ob') hgw (not_nil _)
      have a10a : ∀ ob, (wr.alloc ob).cell? ⟨g, i * 15 + 10, none⟩ = _ := fun ob => cell_kept a10 ((Mod.refl nil _).alloc ob) hgw (not_nil _)
      have a10b : ∀ ob ob', ((wr.alloc ob).alloc ob').cell? ⟨g, i * 15 + 10, none⟩ = _ := fun ob ob' => cell_kept a10 (((Mod.refl nil _).alloc ob).alloc ob') hgw (not_nil _)
      have a11a : ∀ ob, (wr.alloc ob).cell? ⟨g, i * 15 + 11, none⟩ = _ := fun ob => cell_kept a11 ((Mod.refl nil _).alloc ob) hgw (not_nil _)
      have a11b : ∀ ob ob', ((wr.alloc ob).alloc ob').cell? ⟨g, i * 15 + 11, none⟩ = _ := fun ob ob' => cell_kept a11 (((Mod.refl nil _).alloc ob).alloc ob') hgw (not_nil _)
      have a12a : ∀ ob, (wr.alloc ob).cell? ⟨g, i * 15 + 12, none⟩ = _ := fun ob => cell_kept a12 ((Mod.refl nil _).alloc ob) hgw (not_nil _)
      have a12b : ∀ ob ob', ((wr.alloc ob).alloc ob').cell? ⟨g, i * 15 + 12, none⟩ = _ := fun ob ob' => cell_kept a12 (((Mod.refl nil _).alloc ob).alloc ob') hgw (not_nil _)
      have a13a : ∀ ob, (wr.alloc ob).cell? ⟨g, i * 15 + 13, none⟩ = _ := fun ob => cell_kept a13 ((Mod.refl nil _).alloc ob) hgw (not_nil _)
      have a13b : ∀ ob ob', ((wr.alloc ob).alloc ob').cell? ⟨g, i * 15 + 13, none⟩ = _ := fun ob ob' => cell_kept a13 (((Mod.refl nil _).alloc ob).alloc ob') hgw (not_nil _)
      have a14a : ∀ ob, (wr.alloc ob).cell? ⟨g, i * 15 + 14, none⟩ = _ := fun ob => cell_kept a14 ((Mod.refl nil _).alloc ob) hgw (not_nil _)
      have a14b : ∀ ob ob', ((wr.alloc ob).alloc ob').cell? ⟨g, i * 15 + 14, none⟩ = _ := fun ob ob' => cell_kept a14 (((Mod.refl nil _).alloc ob).alloc ob') hgw (not_nil _)
      have b0a : ∀ ob, (wr.alloc ob).cell? ⟨h, i * 15, none⟩ = _ := fun ob => cell_kept b0 ((Mod.refl nil _).alloc ob) hhw (not_nil _)
      have b0b : ∀ ob ob', ((wr.alloc ob).alloc ob').cell? ⟨h, i * 15, none⟩ = _ := fun ob ob' => cell_kept b0 (((Mod.refl nil _).alloc ob).alloc ob') hhw (not_nil _)
      have b1a : ∀ ob, (wr.alloc ob).cell? ⟨h, i * 15 + 1, none⟩ = _ := fun ob => cell_kept b1 ((Mod.refl nil _).alloc ob) hhw (not_nil _)
      have b1b : ∀ ob ob', ((wr.alloc ob).alloc ob').cell? ⟨h, i * 15 + 1, none⟩ = _ := fun ob ob' => cell_kept b1 (((Mod.refl nil _).alloc ob).alloc ob') hhw (not_nil _)
      have b2a : ∀ ob, (wr.alloc ob).cell? ⟨h, i * 15 + 2, none⟩ = _ := fun ob => cell_kept b2 ((Mod.refl nil _).alloc ob) hhw (not_nil _)
      have b2b : ∀ ob ob', ((wr.alloc ob).alloc ob').cell? ⟨h, i * 15 + 2, none⟩ = _ := fun ob ob' => cell_kept b2 (((Mod.refl nil _).alloc ob).alloc ob') hhw (not_nil _)
      have b3a : ∀ ob, (wr.alloc ob).cell? ⟨h, i * 15 + 3, none⟩ = _ := fun ob => cell_kept b3 ((Mod.refl nil _).alloc ob) hhw (not_nil _)
      have b3b : ∀ ob ob', ((wr.alloc ob).alloc ob').cell? ⟨h, i * 15 + 3, none⟩ = _ := fun ob ob' => cell_kept b3 (((Mod.refl nil _).alloc ob).alloc ob') hhw (not_nil _)
      have b4a : ∀ ob, (wr.alloc ob).cell? ⟨h, i * 15 + 4, none⟩ = _ := fun ob => cell_kept b4 ((Mod.refl nil _).alloc ob) hhw (not_nil _)
      have b4b : ∀ ob ob', ((wr.alloc ob).alloc ob').cell? ⟨h, i * 15 + 4, none⟩ = _ := fun ob ob' => cell_kept b4 (((Mod.refl nil _).alloc ob).alloc ob') hhw (not_nil _)
      have b5a : ∀ ob, (wr.alloc ob).cell? ⟨h, i * 15 + 5, none⟩ = _ := fun ob => cell_kept b5 ((Mod.refl nil _).alloc ob) hhw (not_nil _)
      have b5b : ∀ ob ob', ((wr.alloc ob).alloc ob').cell? ⟨h, i * 15 + 5, none⟩ = _ := fun ob ob' => cell_kept b5 (((Mod.refl nil _).alloc ob).alloc ob') hhw (not_nil _)
      have b6a : ∀ ob, (wr.alloc ob).cell? ⟨h, i * 15 + 6, none⟩ = _ := fun ob => cell_kept b6 ((Mod.refl nil _).alloc ob) hhw (not_nil _)
      have b6b : ∀ ob ob', ((wr.alloc ob).alloc ob').cell? ⟨h, i * 15 + 6, none⟩ = _ := fun ob ob' => cell_kept b6 (((Mod.refl nil _).alloc ob).alloc ob') hhw (not_nil _)
      have b7a : ∀ ob, (wr.alloc ob).cell? ⟨h, i * 15 + 7, none⟩ = _ := fun ob => cell_kept b7 ((Mod.refl nil _).alloc ob) hhw (not_nil _)
      have b7b : ∀ ob ob', ((wr.alloc ob).alloc ob').cell? ⟨h, i * 15 + 7, none⟩ = _ := fun ob ob' => cell_kept b7 (((Mod.refl nil _).alloc ob).alloc ob') hhw (not_nil _)
      have b8a : ∀ ob, (wr.alloc ob).cell? ⟨h, i * 15 + 8, none⟩ = _ := fun ob => cell_kept b8 ((Mod.refl nil _).alloc ob) hhw (not_nil _)
      have b8b : ∀ ob ob', ((wr.alloc ob).alloc ob').cell? ⟨h, i * 15 + 8, none⟩ = _ := fun ob ob' => cell_kept b8 (((Mod.refl nil _).alloc ob).alloc ob') hhw (not_nil _)
      have b9a : ∀ ob, (wr.alloc ob).cell? ⟨h, i * 15 + 9, none⟩ = _ := fun ob => cell_kept b9 ((Mod.refl nil _).alloc ob) hhw (not_nil _)
      have b9b : ∀ ob ob', ((wr.alloc ob).alloc ob').cell? ⟨h, i * 15 + 9, none⟩ = _ := fun ob ob' => cell_kept b9 (((Mod.refl nil _).alloc ob).alloc ob') hhw (not_nil _)
      have b10a : ∀ ob, (wr.alloc ob).cell? ⟨h, i * 15 + 10, none⟩ = _ := fun ob => cell_kept b10 ((Mod.refl nil _).alloc ob) hhw (not_nil _)
      have b10b : ∀ ob ob', ((wr.alloc ob).alloc ob').cell? ⟨h, i * 15 + 10, none⟩ = _ := fun ob ob' => cell_kept b10 (((Mod.refl nil _).alloc ob).alloc ob') hhw (not_nil _)
      have b11a : ∀ ob, (wr.alloc ob).cell? ⟨h, i * 15 + 11, none⟩ = _ := fun ob => cell_kept b11 ((Mod.refl nil _).alloc ob) hhw (not_nil _)
      have b11b : ∀ ob ob', ((wr.alloc ob).alloc ob').cell? ⟨h, i * 15 + 11, none⟩ = _ := fun ob ob' => cell_kept b11 (((Mod.refl nil _).alloc ob).alloc ob') hhw (not_nil _)
      have b12a : ∀ ob, (wr.alloc ob).cell? ⟨h, i * 15 + 12, none⟩ = _ := fun ob => cell_kept b12 ((Mod.refl nil _).alloc ob) hhw (not_nil _)
      have b12b : ∀ ob ob', ((wr.alloc ob).alloc ob').cell? ⟨h, i * 15 + 12, none⟩ = _ := fun ob ob' => cell_kept b12 (((Mod.refl nil _).alloc ob).alloc ob') hhw (not_nil _)
      have b13a : ∀ ob, (wr.alloc ob).cell? ⟨h, i * 15 + 13, none⟩ = _ := fun ob => cell_kept b13 ((Mod.refl nil _).alloc ob) hhw (not_nil _)
      have b13b : ∀ ob ob', ((wr.alloc ob).alloc ob').cell? ⟨h, i * 15 + 13, none⟩ = _ := fun ob ob' => cell_kept b13 (((Mod.refl nil _).alloc ob).alloc ob') hhw (not_nil _)
      have b14a : ∀ ob, (wr.alloc ob).cell? ⟨h, i * 15 + 14, none⟩ = _ := fun ob => cell_kept b14 ((Mod.refl nil _).alloc ob) hhw (not_nil _)
      have b14b : ∀ ob ob', ((wr.alloc ob).alloc ob').cell? ⟨h, i * 15 + 14, none⟩ = _ := fun ob ob' => cell_kept b14 (((Mod.refl nil _).alloc ob).alloc ob') hhw (not_nil _)
      go_upto_region 6 with (fail)
      go_cut [6, 7] from 104 (fun s6 s7 wc => ∃ g6 g7, s6 = .pointer (some ⟨g6, 0, none⟩) ∧ s7 = .pointer (some ⟨g7, 0, none⟩) ∧ wc.heap[g6]? = some (.cells #[.int .i64 mk, .int .i64 ma, .int .i64 mb, .int .i64 mn, .slice px nb cx, .slice py nk cy, .int .i64 0, .slice none 0 0, .slice none 0 0, .string ⟨#[]⟩, .int .i64 0, .int .i64 0, .int .i64 0, .slice none 0 0, .string ⟨#[]⟩] 32 (0, 0)) ∧ wc.heap[g7]? = some (.cells #[.int .i64 mk, .int .i64 ma, .int .i64 mb, .int .i64 mn, .slice qx nb dx, .slice qy nk dy, .int .i64 0, .slice none 0 0, .slice none 0 0, .string ⟨#[]⟩, .int .i64 0, .int .i64 0, .int .i64 0, .slice none 0 0, .string ⟨#[]⟩] 32 (0, 0)) ∧ Mod nil wr wc)
      case first => as_aux_lemma =>
        go_region_held3 (fun w' => w'.cell? ⟨g, i * 15, none⟩ = some (.int .i64 mk) ∧ w'.cell? ⟨g, i * 15 + 1, none⟩ = some (.int .i64 ma) ∧ w'.cell? ⟨g, i * 15 + 2, none⟩ = some (.int .i64 mb) ∧ w'.cell? ⟨g, i * 15 + 3, none⟩ = some (.int .i64 mn) ∧ w'.cell? ⟨g, i * 15 + 4, none⟩ = some (.slice px nb cx) ∧ w'.cell? ⟨g, i * 15 + 5, none⟩ = some (.slice py nk cy) ∧ w'.cell? ⟨g, i * 15 + 6, none⟩ = some (.int .i64 0) ∧ w'.cell? ⟨g, i * 15 + 7, none⟩ = some (.slice none 0 0) ∧ w'.cell? ⟨g, i * 15 + 8, none⟩ = some (.slice none 0 0) ∧ w'.cell? ⟨g, i * 15 + 9, none⟩ = some (.string ⟨#[]⟩) ∧ w'.cell? ⟨g, i * 15 + 10, none⟩ = some (.int .i64 0) ∧ w'.cell? ⟨g, i * 15 + 11, none⟩ = some (.int .i64 0) ∧ w'.cell? ⟨g, i * 15 + 12, none⟩ = some (.int .i64 0) ∧ w'.cell? ⟨g, i * 15 + 13, none⟩ = some (.slice none 0 0) ∧ w'.cell? ⟨g, i * 15 + 14, none⟩ = some (.string ⟨#[]⟩) ∧ w'.cell? ⟨h, i * 15, none⟩ = some (.int .i64 mk) ∧ w'.cell? ⟨h, i * 15 + 1, none⟩ = some (.int .i64 ma) ∧ w'.cell? ⟨h, i * 15 + 2, none⟩ = some (.int .i64 mb) ∧ w'.cell? ⟨h, i * 15 + 3, none⟩ = some (.int .i64 mn) ∧ w'.cell? ⟨h, i * 15 + 4, none⟩ = some (.slice qx nb dx) ∧ w'.cell? ⟨h, i * 15 + 5, none⟩ = some (.slice qy nk dy) ∧ w'.cell? ⟨h, i * 15 + 6, none⟩ = some (.int .i64 0) ∧ w'.cell? ⟨h, i * 15 + 7, none⟩ = some (.slice none 0 0) ∧ w'.cell? ⟨h, i * 15 + 8, none⟩ = some (.slice none 0 0) ∧ w'.cell? ⟨h, i * 15 + 9, none⟩ = some (.string ⟨#[]⟩) ∧ w'.cell? ⟨h, i * 15 + 10, none⟩ = some (.int .i64 0) ∧ w'.cell? ⟨h, i * 15 + 11, none⟩ = some (.int .i64 0) ∧ w'.cell? ⟨h, i * 15 + 12, none⟩ = some (.int .i64 0) ∧ w'.cell? ⟨h, i * 15 + 13, none⟩ = some (.slice none 0 0) ∧ w'.cell? ⟨h, i * 15 + 14, none⟩ = some (.string ⟨#[]⟩)) (first | exact ⟨a0, a1, a2, a3, a4, a5, a6, a7, a8, a9, a10, a11, a12, a13, a14, b0, b1, b2, b3, b4, b5, b6, b7, b8, b9, b10, b11, b12, b13, b14⟩ | exact ⟨a0a _, a1a _, a2a _, a3a _, a4a _, a5a _, a6a _, a7a _, a8a _, a9a _, a10a _, a11a _, a12a _, a13a _, a14a _, b0a _, b1a _, b2a _, b3a _, b4a _, b5a _, b6a _, b7a _, b8a _, b9a _, b10a _, b11a _, b12a _, b13a _, b14a _⟩ | exact ⟨a0b _ _, a1b _ _, a2b _ _, a3b _ _, a4b _ _, a5b _ _, a6b _ _, a7b _ _, a8b _ _, a9b _ _, a10b _ _, a11b _ _, a12b _ _, a13b _ _, a14b _ _, b0b _ _, b1b _ _, b2b _ _, b3b _ _, b4b _ _, b5b _ _, b6b _ _, b7b _ _, b8b _ _, b9b _ _, b10b _ _, b11b _ _, b12b _ _, b13b _ _, b14b _ _⟩) (fail)
        all_goals go_wp2_with fail
        all_goals go_meet
        all_goals exact ⟨_, _, rfl, rfl, by first | exact heap_alloc2_new _ _ _ | exact heap_alloc2_old _ _ _, by first | exact heap_alloc2_new _ _ _ | exact heap_alloc2_old _ _ _, by repeat (first | exact Mod.refl _ _ | refine Mod.alloc ?_ _ | refine Mod.drew ?_ | refine Mod.drewN ?_ _)⟩
      case rest =>
      obtain ⟨g6, g7, rfl, rfl, hb6, hb7, hmc⟩ := hcut
      have e0 := cell_of hb6 0
      have e1 := cell_of hb6 1
      have e2 := cell_of hb6 2
      have e3 := cell_of hb6 3
      have e4 := cell_of hb6 4
      have e5 := cell_of hb6 5
      have e6 := cell_of hb6 6
      have e7 := cell_of hb6 7
      have e8 := cell_of hb6 8
      have e9 := cell_of hb6 9
      have e10 := cell_of hb6 10
      have e11 := cell_of hb6 11
      have e12 := cell_of hb6 12
      have e13 := cell_of hb6 13
      have e14 := cell_of hb6 14
      have f0 := cell_of hb7 0
      have f1 := cell_of hb7 1
      have f2 := cell_of hb7 2
      have f3 := cell_of hb7 3
      have f4 := cell_of hb7 4
      have f5 := cell_of hb7 5
      have f6 := cell_of hb7 6
      have f7 := cell_of hb7 7
      have f8 := cell_of hb7 8
      have f9 := cell_of hb7 9
      have f10 := cell_of hb7 10
      have f11 := cell_of hb7 11
      have f12 := cell_of hb7 12
      have f13 := cell_of hb7 13
      have f14 := cell_of hb7 14
      simp only [List.getElem?_toArray, List.getElem?_cons_zero, List.getElem?_cons_succ] at e0 e1 e2 e3 e4 e5 e6 e7 e8 e9 e10 e11 e12 e13 e14 f0 f1 f2 f3 f4 f5 f6 f7 f8 f9 f10 f11 f12 f13 f14
      have HB6 := Lib.hid hb6
      have HB7 := Lib.hid hb7
      have HMC := Lib.hid hmc
      clear hb6 hb7 hmc a0 b0 a0a a0b b0a b0b a1 b1 a1a a1b b1a b1b a2 b2 a2a a2b b2a b2b a3 b3 a3a a3b b3a b3b a4 b4 a4a a4b b4a b4b a5 b5 a5a a5b b5a b5b a6 b6 a6a a6b b6a b6b a7 b7 a7a a7b b7a b7b a8 b8 a8a a8b b8a b8b a9 b9 a9a a9b b9a b9b a10 b10 a10a a10b b10a b10b a11 b11 a11a a11b b11a b11b a12 b12 a12a a12b b12a b12b a13 b13 a13a a13b b13a b13b a14 b14 a14a a14b b14a b14b
      go_wp2_with fail
      refine (refBytesSame S T _ _ m.bytes m.bytes _ (HRX.out.modNil HMC.out) (HRY.out.modNil HMC.out)).mono ?_
      rintro e w' ⟨rfl, rfl⟩
      rw [decide_eq_true rfl]
      go_wp2_with fail
      refine (refSamePlan_zero _).mono ?_
      rintro e wd ⟨rfl, hmd⟩
      have HMD := Lib.hid (HMC.out.thenNil hmd)
      have HD6 := Lib.hid (hmd.keep HB6.out)
      have HD7 := Lib.hid (hmd.keep HB7.out)
      clear hmd e0 e1 e2 e3 e4 e5 e6 e7 e8 e9 e10 e11 e12 e13 e14 f0 f1 f2 f3 f4 f5 f6 f7 f8 f9 f10 f11 f12 f13 f14
      go_wp2_with fail
      go_loopw [8] (fun v8 wx => ∃ k : Nat, v8 = .int .i64 k ∧ k ≤ nk ∧ Hid (Mod nil wd wx)) (fun v _ => nk - (intOf v).toNat)
      case atStart => exact ⟨0, rfl, by omega, Lib.hid (Mod.refl _ _)⟩
      case round =>
        obtain ⟨k, rfl, hk, HMX⟩ := hrel
        rename World => wx
        have e5 := cell_of (HMX.out.keep HD6.out) 5
        have f5 := cell_of (HMX.out.keep HD7.out) 5
        simp only [List.getElem?_toArray, List.getElem?_cons_zero, List.getElem?_cons_succ] at e5 f5
        by_cases hkl : k < nk
        · have hmx := HMD.out.thenNil HMX.out
          obtain ⟨gx, ox, rfl, c1⟩ : ∃ gx ox, py = some ⟨gx, ox, none⟩ ∧ wx.cell? ⟨gx, ox + k, none⟩ = some (.bool (m.keep.getD k false)) := by
            obtain ⟨p', c', hp, hcc⟩ := HKX.out
            obtain ⟨b', o', h1, h2, h3, h4⟩ := hcc k (by rw [bools_length, HNK.out]; exact hkl)
            simp only [Value.slice.injEq] at hp
            obtain ⟨rfl, -, -⟩ := hp
            exact ⟨b', o', h1, (cell_kept h4 hmx h3 (not_nil _)).trans (by simp [bools, HNK.out, hkl])⟩
          obtain ⟨gy, oy, rfl, c2⟩ : ∃ gy oy, qy = some ⟨gy, oy, none⟩ ∧ wx.cell? ⟨gy, oy + k, none⟩ = some (.bool (m.keep.getD k false)) := by
            obtain ⟨p', c', hp, hcc⟩ := HKY.out
            obtain ⟨b', o', h1, h2, h3, h4⟩ := hcc k (by rw [bools_length, HNK.out]; exact hkl)
            simp only [Value.slice.injEq] at hp
            obtain ⟨rfl, -, -⟩ := hp
            exact ⟨b', o', h1, (cell_kept h4 hmx h3 (not_nil _)).trans (by simp [bools, HNK.out, hkl])⟩
          clear hmx
          obtain ⟨bk, hbk⟩ : ∃ bk, m.keep.getD k false = bk := ⟨_, rfl⟩
          rw [hbk] at c1 c2
          clear hbk
          have HK1 : Hid (k + 1 ≤ nk) := Lib.hid (by omega)
          cases bk
          all_goals
            go_wp2_with fail
            go_quiet (fail)
            go_wp2_with fail
            exact ⟨⟨k + 1, by go_num, HK1.out, Lib.hid (HMX.out.drewN _)⟩, by have := HK1.out; simp [intOf]; omega⟩
        · obtain rfl : k = nk := by omega
          have HMF := Lib.hid ((HMR.out.thenNil HMD.out).thenNil HMX.out)
          go_wp2_with fail
          exact ⟨⟨i + 1, by go_num, by omega, HMF⟩, by simp [intOf]; omega⟩
    · obtain rfl : i = N := by omega
      have HEND : Hid (Post (.returned (.bool true)) wr) := Lib.hid (HPOST.out _ _ ⟨rfl, HMR.out⟩)
      clear HMR HPOST
      go_wp2_with fail
      exact HEND.out
end Go.Proofs.Ytlkhihdgaimboaa

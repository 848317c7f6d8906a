/- cflref27.event, Events. -/
import Derived.Test.YtlkhihdgaimboaaTaleH
import Derived.Test.YtlkhihdgaimboaaRefTaleB
import Derived.Laws.Tables
namespace Go.Proofs.Ytlkhihdgaimboaa
open Go.RowKit
theorem Mod.setRow {S : Nat → Prop} {a w : World} (h : Mod S a w) (g : Nat) (cs : Array Value) (hg : g < a.heap.size → S g) : Mod S a (w.setRow g cs) :=
  ⟨h.os, h.tape, h.output, by simpa [World.setRow] using h.size, fun k hk hs => (setRow_other w g k cs (fun e => hs (e ▸ hg (e ▸ hk)))).trans (h.block k hk hs)⟩
theorem bit_one (c : Nat) (hc : c < 256) (i : Nat) : decide (bits .and .u8 ((c : Int) / 2 ^ i) 1 = 1) = bitOf c i := by
  have hd : c / 2 ^ i < 256 := Nat.lt_of_le_of_lt (Nat.div_le_self _ _) hc
  have h := and1_u8 ⟨c / 2 ^ i, hd⟩
  simp only at h
  have e : ((c : Int) / 2 ^ i) = ((c / 2 ^ i : Nat) : Int) := by simp
  rw [e, h]
  unfold bitOf
  rw [decide_eq_decide]
  omega
set_option maxRecDepth 100000 in
set_option maxHeartbeats 4000000 in
theorem refEvent (c0 c1 c2 c3 : UInt8) (n : Nat) (w : World) (hn : 2 ≤ n) (hn' : n ≤ 16) :
    Calls Try.prog 31 #[.int .u8 c0.toNat, .int .u8 c1.toNat, .int .u8 c2.toNat, .int .u8 c3.toNat, .int .i64 n] w fun e w' => ∃ ev, e = .returned (.agg ev.vals.toArray) ∧ EvIs (fun k => w.heap.size ≤ k) w' ev (eventOf [c0, c1, c2, c3] n) ∧ Mod nil w w' := by
  refine (?_ : ∀ Post : Ending → World → Prop, Hid (∀ e w', (∃ ev, e = .returned (.agg ev.vals.toArray) ∧ EvIs (fun k => w.heap.size ≤ k) w' ev (eventOf [c0, c1, c2, c3] n) ∧ Mod nil w w') → Post e w') → Calls Try.prog 31 #[.int .u8 c0.toNat, .int .u8 c1.toNat, .int .u8 c2.toNat, .int .u8 c3.toNat, .int .i64 n] w Post) _ (Lib.hid (fun _ _ h => h))
  intro Post HPOST
  obtain ⟨d0, hd0⟩ : ∃ d, c0.toNat = d := ⟨_, rfl⟩
  obtain ⟨d1, hd1⟩ : ∃ d, c1.toNat = d := ⟨_, rfl⟩
  obtain ⟨d2, hd2⟩ : ∃ d, c2.toNat = d := ⟨_, rfl⟩
  obtain ⟨d3, hd3⟩ : ∃ d, c3.toNat = d := ⟨_, rfl⟩
  rw [hd0, hd1, hd2, hd3]
  have hb0 : d0 < 256 := by rw [← hd0]; exact UInt8.toNat_lt _
  have hb1 : d1 < 256 := by rw [← hd1]; exact UInt8.toNat_lt _
  have hb2 : d2 < 256 := by rw [← hd2]; exact UInt8.toNat_lt _
  have hb3 : d3 < 256 := by rw [← hd3]; exact UInt8.toNat_lt _
  obtain ⟨K, hK⟩ : ∃ K, d0 % 16 = K := ⟨_, rfl⟩
  obtain ⟨X, hX⟩ : ∃ X, d1 % n = X := ⟨_, rfl⟩
  obtain ⟨n2, hn2⟩ : ∃ n2, n + 2 = n2 := ⟨_, rfl⟩
  obtain ⟨Wh, hWh⟩ : ∃ Wh, d1 % n2 = Wh := ⟨_, rfl⟩
  obtain ⟨Y2, hY2⟩ : ∃ Y, d2 % 2 = Y := ⟨_, rfl⟩
  obtain ⟨Y7, hY7⟩ : ∃ Y, d2 % 7 = Y := ⟨_, rfl⟩
  obtain ⟨Z8, hZ8⟩ : ∃ Z, d3 % 8 = Z := ⟨_, rfl⟩
  obtain ⟨Z5, hZ5⟩ : ∃ Z, d3 % 5 = Z := ⟨_, rfl⟩
  obtain ⟨Z12, hZ12⟩ : ∃ Z, d3 % 12 = Z := ⟨_, rfl⟩
  obtain ⟨Z4, hZ4⟩ : ∃ Z, d3 % 4 = Z := ⟨_, rfl⟩
  have hev : eventOf [c0, c1, c2, c3] n = if K ≤ 2 then ⟨3, (X : Nat), (Y2 : Nat), 0, [], []⟩
      else if K ≤ 7 then ⟨4, 0, 0, (Z8 : Nat), [], []⟩ else if K = 8 then ⟨1, 0, 0, (1 + Z5 : Nat), [], []⟩ else if K = 9 then ⟨5, 0, 0, (Z8 : Nat), [], []⟩ else if K = 10 then ⟨6, 0, 0, (Z8 : Nat), [], []⟩
      else if K = 11 then ⟨2, (Wh : Nat), 0, (Y7 : Nat) - 3, [], []⟩ else if K = 12 then ⟨8, (Wh : Nat), 0, 0, [], bitsTo d2 8⟩ else if K = 13 then ⟨9, (Wh : Nat), 0, (Z12 : Nat), [], []⟩
      else if K = 14 then ⟨7, (Wh : Nat), 0, 0, [c1, c2, c3], []⟩ else ⟨11, (X : Nat), (Y2 : Nat), (1 + Z4 : Nat), [0, 0, 0], []⟩ := by
    simp only [eventOf, List.getD_cons_zero, List.getD_cons_succ, hd0, hd1, hd2, hd3, hK, hX, hn2, hWh, hY2, hY7, hZ8, hZ5, hZ12, hZ4]
  have HEV := Lib.hid hev
  clear hev
  have e1 : (d0 : Int).tmod 16 = (K : Int) := by rw [← hK]; rfl
  have e2 : (d1 : Int).tmod (n : Int) = (X : Int) := by rw [← hX]; rfl
  have e3 : IntKind.i64.wrap ((n : Int) + 2) = (n2 : Int) := by rw [IntKind.wrap_i64]; omega
  have e4 : (d1 : Int).tmod (n2 : Int) = (Wh : Int) := by rw [← hWh]; rfl
  have e5 : (d2 : Int).tmod 2 = (Y2 : Int) := by rw [← hY2]; rfl
  have e6 : (d2 : Int).tmod 7 = (Y7 : Int) := by rw [← hY7]; rfl
  have e7 : (d3 : Int).tmod 8 = (Z8 : Int) := by rw [← hZ8]; rfl
  have e8 : (d3 : Int).tmod 5 = (Z5 : Int) := by rw [← hZ5]; rfl
  have e9 : (d3 : Int).tmod 12 = (Z12 : Int) := by rw [← hZ12]; rfl
  have e10 : (d3 : Int).tmod 4 = (Z4 : Int) := by rw [← hZ4]; rfl
  have e11 : IntKind.i64.wrap (1 + (Z5 : Int)) = ((1 + Z5 : Nat) : Int) := by rw [IntKind.wrap_i64]; omega
  have e12 : IntKind.i64.wrap (1 + (Z4 : Int)) = ((1 + Z4 : Nat) : Int) := by rw [IntKind.wrap_i64]; omega
  have e13 : IntKind.i64.wrap ((Y7 : Int) - 3) = (Y7 : Int) - 3 := by rw [IntKind.wrap_i64]; omega
  have hw1 : IntKind.i64.wrap (d1 : Int) = (d1 : Int) := by rw [IntKind.wrap_i64]; omega
  have hw2 : IntKind.i64.wrap (d2 : Int) = (d2 : Int) := by rw [IntKind.wrap_i64]; omega
  have hw3 : IntKind.i64.wrap (d3 : Int) = (d3 : Int) := by rw [IntKind.wrap_i64]; omega
  have hn0 : ¬ (n : Int) = 0 := by omega
  have hnn : ¬ n = 0 := by omega
  have hn20 : ¬ (n2 : Int) = 0 := by omega
  have hnn2 : ¬ n2 = 0 := by omega
  have hK16 : K < 16 := by omega
  obtain ⟨G, hG⟩ : ∃ G, w.heap.size = G := ⟨_, rfl⟩
  rw [hG] at HPOST
  have HG := Lib.hid hG
  clear hG hK hX hn2 hWh hY2 hY7 hZ8 hZ5 hZ12 hZ4
  go_enter Try.func31, Try.ntmps31
  go_upto_region 1 with (fail)
  generalize hwa : World.alloc _ _ = wa
  have hma : Mod nil w wa := by rw [← hwa]; exact (Mod.refl _ _).alloc _
  have hba : wa.heap[G]? = some (.cells #[.int .i64 0, .int .i64 0, .int .i64 0, .int .i64 0, .slice none 0 0, .slice none 0 0, .int .i64 0, .slice none 0 0, .slice none 0 0, .string ⟨#[]⟩, .int .i64 0, .int .i64 0, .int .i64 0, .slice none 0 0, .string ⟨#[]⟩] 32 (0, 0)) := by rw [← hwa, ← HG.out]; exact heap_alloc_new _ _
  have HMA := Lib.hid hma
  have HBA := Lib.hid hba
  have hsz : wa.heap.size = G + 1 := by rw [← hwa, ← HG.out]; simp
  rw [show w.heap.size = G from HG.out]
  clear hma hba hwa
  go_region_held3 (fun _ => True) (trivial) (fail)
  have hma := HMA.out.drew
  have hba : wa.drew.heap[G]? = _ := HBA.out
  have hsz' : wa.drew.heap.size = G + 1 := hsz
  clear hsz
  clear HMA HBA
  generalize wa.drew = wa at *
  have HMA := Lib.hid hma
  have HBA := Lib.hid hba
  have HSZ := Lib.hid hsz'
  clear hma hba hsz'
  rcases (show K = 0 ∨ K = 1 ∨ K = 2 ∨ K = 3 ∨ K = 4 ∨ K = 5 ∨ K = 6 ∨ K = 7 ∨ K = 8 ∨ K = 9 ∨ K = 10 ∨ K = 11 ∨ K = 12 ∨ K = 13 ∨ K = 14 ∨ K = 15 by omega) with rfl | rfl | rfl | rfl | rfl | rfl | rfl | rfl | rfl | rfl | rfl | rfl | rfl | rfl | rfl | rfl
  · have e1' : (d0 : Int).tmod 16 = 0 := e1
    clear e1
    have he : eventOf [c0, c1, c2, c3] n = ⟨3, (X : Nat), (Y2 : Nat), 0, [], []⟩ := by rw [HEV.out]; rfl
    have HEND : Hid (∀ w7, Mod (· = G) wa w7 → Post (.returned (.agg #[.int .i64 3, .int .i64 (X : Nat), .int .i64 (Y2 : Nat), .int .i64 0, .slice none 0 0, .slice none 0 0, .int .i64 0, .slice none 0 0, .slice none 0 0, .string ⟨#[]⟩, .int .i64 0, .int .i64 0, .int .i64 0, .slice none 0 0, .string ⟨#[]⟩])) w7) := Lib.hid (fun w7 m7 => HPOST.out _ _ ⟨⟨3, (X : Nat), (Y2 : Nat), 0, .slice none 0 0, .slice none 0 0⟩, rfl, by rw [he]; exact ⟨rfl, rfl, rfl, rfl, row_nil _ _, row_nil _ _⟩, (HMA.out).new m7 (fun k hk => by have := HG.out; omega)⟩)
    clear he
    go_wp2_with (refine wpList_store_row rfl _ _ _ rfl G #[.int .i64 3, .int .i64 (X : Nat), .int .i64 (Y2 : Nat), .int .i64 0, .slice none 0 0, .slice none 0 0, .int .i64 0, .slice none 0 0, .slice none 0 0, .string ⟨#[]⟩, .int .i64 0, .int .i64 0, .int .i64 0, .slice none 0 0, .string ⟨#[]⟩] rfl rfl 32 _ HBA.out info_size15 rfl (by simp [Value.oneCell']) ?_)
    have hb7 := setRow_heap wa G _ #[.int .i64 3, .int .i64 (X : Nat), .int .i64 (Y2 : Nat), .int .i64 0, .slice none 0 0, .slice none 0 0, .int .i64 0, .slice none 0 0, .slice none 0 0, .string ⟨#[]⟩, .int .i64 0, .int .i64 0, .int .i64 0, .slice none 0 0, .string ⟨#[]⟩] _ _ HBA.out
    have hm7 := (Mod.refl (· = G) wa).setRow G #[.int .i64 3, .int .i64 (X : Nat), .int .i64 (Y2 : Nat), .int .i64 0, .slice none 0 0, .slice none 0 0, .int .i64 0, .slice none 0 0, .slice none 0 0, .string ⟨#[]⟩, .int .i64 0, .int .i64 0, .int .i64 0, .slice none 0 0, .string ⟨#[]⟩] (fun _ => rfl)
    generalize World.setRow wa G _ = w7 at *
    refine bodyPost_ret (results_cell_row rfl _ _ G 32 #[.int .i64 3, .int .i64 (X : Nat), .int .i64 (Y2 : Nat), .int .i64 0, .slice none 0 0, .slice none 0 0, .int .i64 0, .slice none 0 0, .slice none 0 0, .string ⟨#[]⟩, .int .i64 0, .int .i64 0, .int .i64 0, .slice none 0 0, .string ⟨#[]⟩] (0, 0) _ rfl hb7 Try.underlying32 rfl info_size15) rfl ?_
    exact HEND.out _ hm7
  · have e1' : (d0 : Int).tmod 16 = 1 := e1
    clear e1
    have he : eventOf [c0, c1, c2, c3] n = ⟨3, (X : Nat), (Y2 : Nat), 0, [], []⟩ := by rw [HEV.out]; rfl
    have HEND : Hid (∀ w7, Mod (· = G) wa w7 → Post (.returned (.agg #[.int .i64 3, .int .i64 (X : Nat), .int .i64 (Y2 : Nat), .int .i64 0, .slice none 0 0, .slice none 0 0, .int .i64 0, .slice none 0 0, .slice none 0 0, .string ⟨#[]⟩, .int .i64 0, .int .i64 0, .int .i64 0, .slice none 0 0, .string ⟨#[]⟩])) w7) := Lib.hid (fun w7 m7 => HPOST.out _ _ ⟨⟨3, (X : Nat), (Y2 : Nat), 0, .slice none 0 0, .slice none 0 0⟩, rfl, by rw [he]; exact ⟨rfl, rfl, rfl, rfl, row_nil _ _, row_nil _ _⟩, (HMA.out).new m7 (fun k hk => by have := HG.out; omega)⟩)
    clear he
    go_wp2_with (refine wpList_store_row rfl _ _ _ rfl G #[.int .i64 3, .int .i64 (X : Nat), .int .i64 (Y2 : Nat), .int .i64 0, .slice none 0 0, .slice none 0 0, .int .i64 0, .slice none 0 0, .slice none 0 0, .string ⟨#[]⟩, .int .i64 0, .int .i64 0, .int .i64 0, .slice none 0 0, .string ⟨#[]⟩] rfl rfl 32 _ HBA.out info_size15 rfl (by simp [Value.oneCell']) ?_)
    have hb7 := setRow_heap wa G _ #[.int .i64 3, .int .i64 (X : Nat), .int .i64 (Y2 : Nat), .int .i64 0, .slice none 0 0, .slice none 0 0, .int .i64 0, .slice none 0 0, .slice none 0 0, .string ⟨#[]⟩, .int .i64 0, .int .i64 0, .int .i64 0, .slice none 0 0, .string ⟨#[]⟩] _ _ HBA.out
    have hm7 := (Mod.refl (· = G) wa).setRow G #[.int .i64 3, .int .i64 (X : Nat), .int .i64 (Y2 : Nat), .int .i64 0, .slice none 0 0, .slice none 0 0, .int .i64 0, .slice none 0 0, .slice none 0 0, .string ⟨#[]⟩, .int .i64 0, .int .i64 0, .int .i64 0, .slice none 0 0, .string ⟨#[]⟩] (fun _ => rfl)
    generalize World.setRow wa G _ = w7 at *
    refine bodyPost_ret (results_cell_row rfl _ _ G 32 #[.int .i64 3, .int .i64 (X : Nat), .int .i64 (Y2 : Nat), .int .i64 0, .slice none 0 0, .slice none 0 0, .int .i64 0, .slice none 0 0, .slice none 0 0, .string ⟨#[]⟩, .int .i64 0, .int .i64 0, .int .i64 0, .slice none 0 0, .string ⟨#[]⟩] (0, 0) _ rfl hb7 Try.underlying32 rfl info_size15) rfl ?_
    exact HEND.out _ hm7
  · have e1' : (d0 : Int).tmod 16 = 2 := e1
    clear e1
    have he : eventOf [c0, c1, c2, c3] n = ⟨3, (X : Nat), (Y2 : Nat), 0, [], []⟩ := by rw [HEV.out]; rfl
    have HEND : Hid (∀ w7, Mod (· = G) wa w7 → Post (.returned (.agg #[.int .i64 3, .int .i64 (X : Nat), .int .i64 (Y2 : Nat), .int .i64 0, .slice none 0 0, .slice none 0 0, .int .i64 0, .slice none 0 0, .slice none 0 0, .string ⟨#[]⟩, .int .i64 0, .int .i64 0, .int .i64 0, .slice none 0 0, .string ⟨#[]⟩])) w7) := Lib.hid (fun w7 m7 => HPOST.out _ _ ⟨⟨3, (X : Nat), (Y2 : Nat), 0, .slice none 0 0, .slice none 0 0⟩, rfl, by rw [he]; exact ⟨rfl, rfl, rfl, rfl, row_nil _ _, row_nil _ _⟩, (HMA.out).new m7 (fun k hk => by have := HG.out; omega)⟩)
    clear he
    go_wp2_with (refine wpList_store_row rfl _ _ _ rfl G #[.int .i64 3, .int .i64 (X : Nat), .int .i64 (Y2 : Nat), .int .i64 0, .slice none 0 0, .slice none 0 0, .int .i64 0, .slice none 0 0, .slice none 0 0, .string ⟨#[]⟩, .int .i64 0, .int .i64 0, .int .i64 0, .slice none 0 0, .string ⟨#[]⟩] rfl rfl 32 _ HBA.out info_size15 rfl (by simp [Value.oneCell']) ?_)
    have hb7 := setRow_heap wa G _ #[.int .i64 3, .int .i64 (X : Nat), .int .i64 (Y2 : Nat), .int .i64 0, .slice none 0 0, .slice none 0 0, .int .i64 0, .slice none 0 0, .slice none 0 0, .string ⟨#[]⟩, .int .i64 0, .int .i64 0, .int .i64 0, .slice none 0 0, .string ⟨#[]⟩] _ _ HBA.out
    have hm7 := (Mod.refl (· = G) wa).setRow G #[.int .i64 3, .int .i64 (X : Nat), .int .i64 (Y2 : Nat), .int .i64 0, .slice none 0 0, .slice none 0 0, .int .i64 0, .slice none 0 0, .slice none 0 0, .string ⟨#[]⟩, .int .i64 0, .int .i64 0, .int .i64 0, .slice none 0 0, .string ⟨#[]⟩] (fun _ => rfl)
    generalize World.setRow wa G _ = w7 at *
    refine bodyPost_ret (results_cell_row rfl _ _ G 32 #[.int .i64 3, .int .i64 (X : Nat), .int .i64 (Y2 : Nat), .int .i64 0, .slice none 0 0, .slice none 0 0, .int .i64 0, .slice none 0 0, .slice none 0 0, .string ⟨#[]⟩, .int .i64 0, .int .i64 0, .int .i64 0, .slice none 0 0, .string ⟨#[]⟩] (0, 0) _ rfl hb7 Try.underlying32 rfl info_size15) rfl ?_
    exact HEND.out _ hm7
  · have e1' : (d0 : Int).tmod 16 = 3 := e1
    clear e1
    have he : eventOf [c0, c1, c2, c3] n = ⟨4, 0, 0, (Z8 : Nat), [], []⟩ := by rw [HEV.out]; rfl
    have HEND : Hid (∀ w7, Mod (· = G) wa w7 → Post (.returned (.agg #[.int .i64 4, .int .i64 0, .int .i64 0, .int .i64 (Z8 : Nat), .slice none 0 0, .slice none 0 0, .int .i64 0, .slice none 0 0, .slice none 0 0, .string ⟨#[]⟩, .int .i64 0, .int .i64 0, .int .i64 0, .slice none 0 0, .string ⟨#[]⟩])) w7) := Lib.hid (fun w7 m7 => HPOST.out _ _ ⟨⟨4, 0, 0, (Z8 : Nat), .slice none 0 0, .slice none 0 0⟩, rfl, by rw [he]; exact ⟨rfl, rfl, rfl, rfl, row_nil _ _, row_nil _ _⟩, (HMA.out).new m7 (fun k hk => by have := HG.out; omega)⟩)
    clear he
    go_wp2_with (refine wpList_store_row rfl _ _ _ rfl G #[.int .i64 4, .int .i64 0, .int .i64 0, .int .i64 (Z8 : Nat), .slice none 0 0, .slice none 0 0, .int .i64 0, .slice none 0 0, .slice none 0 0, .string ⟨#[]⟩, .int .i64 0, .int .i64 0, .int .i64 0, .slice none 0 0, .string ⟨#[]⟩] rfl rfl 32 _ HBA.out info_size15 rfl (by simp [Value.oneCell']) ?_)
    have hb7 := setRow_heap wa G _ #[.int .i64 4, .int .i64 0, .int .i64 0, .int .i64 (Z8 : Nat), .slice none 0 0, .slice none 0 0, .int .i64 0, .slice none 0 0, .slice none 0 0, .string ⟨#[]⟩, .int .i64 0, .int .i64 0, .int .i64 0, .slice none 0 0, .string ⟨#[]⟩] _ _ HBA.out
    have hm7 := (Mod.refl (· = G) wa).setRow G #[.int .i64 4, .int .i64 0, .int .i64 0, .int .i64 (Z8 : Nat), .slice none 0 0, .slice none 0 0, .int .i64 0, .slice none 0 0, .slice none 0 0, .string ⟨#[]⟩, .int .i64 0, .int .i64 0, .int .i64 0, .slice none 0 0, .string ⟨#[]⟩] (fun _ => rfl)
    generalize World.setRow wa G _ = w7 at *
    refine bodyPost_ret (results_cell_row rfl _ _ G 32 #[.int .i64 4, .int .i64 0, .int .i64 0, .int .i64 (Z8 : Nat), .slice none 0 0, .slice none 0 0, .int .i64 0, .slice none 0 0, .slice none 0 0, .string ⟨#[]⟩, .int .i64 0, .int .i64 0, .int .i64 0, .slice none 0 0, .string ⟨#[]⟩] (0, 0) _ rfl hb7 Try.underlying32 rfl info_size15) rfl ?_
    exact HEND.out _ hm7
  · have e1' : (d0 : Int).tmod 16 = 4 := e1
    clear e1
    have he : eventOf [c0, c1, c2, c3] n = ⟨4, 0, 0, (Z8 : Nat), [], []⟩ := by rw [HEV.out]; rfl
    have HEND : Hid (∀ w7, Mod (· = G) wa w7 → Post (.returned (.agg #[.int .i64 4, .int .i64 0, .int .i64 0, .int .i64 (Z8 : Nat), .slice none 0 0, .slice none 0 0, .int .i64 0, .slice none 0 0, .slice none 0 0, .string ⟨#[]⟩, .int .i64 0, .int .i64 0, .int .i64 0, .slice none 0 0, .string ⟨#[]⟩])) w7) := Lib.hid (fun w7 m7 => HPOST.out _ _ ⟨⟨4, 0, 0, (Z8 : Nat), .slice none 0 0, .slice none 0 0⟩, rfl, by rw [he]; exact ⟨rfl, rfl, rfl, rfl, row_nil _ _, row_nil _ _⟩, (HMA.out).new m7 (fun k hk => by have := HG.out; omega)⟩)
    clear he
    go_wp2_with (refine wpList_store_row rfl _ _ _ rfl G #[.int .i64 4, .int .i64 0, .int .i64 0, .int .i64 (Z8 : Nat), .slice none 0 0, .slice none 0 0, .int .i64 0, .slice none 0 0, .slice none 0 0, .string ⟨#[]⟩, .int .i64 0, .int .i64 0, .int .i64 0, .slice none 0 0, .string ⟨#[]⟩] rfl rfl 32 _ HBA.out info_size15 rfl (by simp [Value.oneCell']) ?_)
    have hb7 := setRow_heap wa G _ #[.int .i64 4, .int .i64 0, .int .i64 0, .int .i64 (Z8 : Nat), .slice none 0 0, .slice none 0 0, .int .i64 0, .slice none 0 0, .slice none 0 0, .string ⟨#[]⟩, .int .i64 0, .int .i64 0, .int .i64 0, .slice none 0 0, .string ⟨#[]⟩] _ _ HBA.out
    have hm7 := (Mod.refl (· = G) wa).setRow G #[.int .i64 4, .int .i64 0, .int .i64 0, .int .i64 (Z8 : Nat), .slice none 0 0, .slice none 0 0, .int .i64 0, .slice none 0 0, .slice none 0 0, .string ⟨#[]⟩, .int .i64 0, .int .i64 0, .int .i64 0, .slice none 0 0, .string ⟨#[]⟩] (fun _ => rfl)
    generalize World.setRow wa G _ = w7 at *
    refine bodyPost_ret (results_cell_row rfl _ _ G 32 #[.int .i64 4, .int .i64 0, .int .i64 0, .int .i64 (Z8 : Nat), .slice none 0 0, .slice none 0 0, .int .i64 0, .slice none 0 0, .slice none 0 0, .string ⟨#[]⟩, .int .i64 0, .int .i64 0, .int .i64 0, .slice none 0 0, .string ⟨#[]⟩] (0, 0) _ rfl hb7 Try.underlying32 rfl info_size15) rfl ?_
    exact HEND.out _ hm7
  · have e1' : (d0 : Int).tmod 16 = 5 := e1
    clear e1
    have he : eventOf [c0, c1, c2, c3] n = ⟨4, 0, 0, (Z8 : Nat), [], []⟩ := by rw [HEV.out]; rfl
    have HEND : Hid (∀ w7, Mod (· = G) wa w7 → Post (.returned (.agg #[.int .i64 4, .int .i64 0, .int .i64 0, .int .i64 (Z8 : Nat), .slice none 0 0, .slice none 0 0, .int .i64 0, .slice none 0 0, .slice none 0 0, .string ⟨#[]⟩, .int .i64 0, .int .i64 0, .int .i64 0, .slice none 0 0, .string ⟨#[]⟩])) w7) := Lib.hid (fun w7 m7 => HPOST.out _ _ ⟨⟨4, 0, 0, (Z8 : Nat), .slice none 0 0, .slice none 0 0⟩, rfl, by rw [he]; exact ⟨rfl, rfl, rfl, rfl, row_nil _ _, row_nil _ _⟩, (HMA.out).new m7 (fun k hk => by have := HG.out; omega)⟩)
    clear he
    go_wp2_with (refine wpList_store_row rfl _ _ _ rfl G #[.int .i64 4, .int .i64 0, .int .i64 0, .int .i64 (Z8 : Nat), .slice none 0 0, .slice none 0 0, .int .i64 0, .slice none 0 0, .slice none 0 0, .string ⟨#[]⟩, .int .i64 0, .int .i64 0, .int .i64 0, .slice none 0 0, .string ⟨#[]⟩] rfl rfl 32 _ HBA.out info_size15 rfl (by simp [Value.oneCell']) ?_)
    have hb7 := setRow_heap wa G _ #[.int .i64 4, .int .i64 0, .int .i64 0, .int .i64 (Z8 : Nat), .slice none 0 0, .slice none 0 0, .int .i64 0, .slice none 0 0, .slice none 0 0, .string ⟨#[]⟩, .int .i64 0, .int .i64 0, .int .i64 0, .slice none 0 0, .string ⟨#[]⟩] _ _ HBA.out
    have hm7 := (Mod.refl (· = G) wa).setRow G #[.int .i64 4, .int .i64 0, .int .i64 0, .int .i64 (Z8 : Nat), .slice none 0 0, .slice none 0 0, .int .i64 0, .slice none 0 0, .slice none 0 0, .string ⟨#[]⟩, .int .i64 0, .int .i64 0, .int .i64 0, .slice none 0 0, .string ⟨#[]⟩] (fun _ => rfl)
    generalize World.setRow wa G _ = w7 at *
    refine bodyPost_ret (results_cell_row rfl _ _ G 32 #[.int .i64 4, .int .i64 0, .int .i64 0, .int .i64 (Z8 : Nat), .slice none 0 0, .slice none 0 0, .int .i64 0, .slice none 0 0, .slice none 0 0, .string ⟨#[]⟩, .int .i64 0, .int .i64 0, .int .i64 0, .slice none 0 0, .string ⟨#[]⟩] (0, 0) _ rfl hb7 Try.underlying32 rfl info_size15) rfl ?_
    exact HEND.out _ hm7
  · have e1' : (d0 : Int).tmod 16 = 6 := e1
    clear e1
    have he : eventOf [c0, c1, c2, c3] n = ⟨4, 0, 0, (Z8 : Nat), [], []⟩ := by rw [HEV.out]; rfl
    have HEND : Hid (∀ w7, Mod (· = G) wa w7 → Post (.returned (.agg #[.int .i64 4, .int .i64 0, .int .i64 0, .int .i64 (Z8 : Nat), .slice none 0 0, .slice none 0 0, .int .i64 0, .slice none 0 0, .slice none 0 0, .string ⟨#[]⟩, .int .i64 0, .int .i64 0, .int .i64 0, .slice none 0 0, .string ⟨#[]⟩])) w7) := Lib.hid (fun w7 m7 => HPOST.out _ _ ⟨⟨4, 0, 0, (Z8 : Nat), .slice none 0 0, .slice none 0 0⟩, rfl, by rw [he]; exact ⟨rfl, rfl, rfl, rfl, row_nil _ _, row_nil _ _⟩, (HMA.out).new m7 (fun k hk => by have := HG.out; omega)⟩)
    clear he
    go_wp2_with (refine wpList_store_row rfl _ _ _ rfl G #[.int .i64 4, .int .i64 0, .int .i64 0, .int .i64 (Z8 : Nat), .slice none 0 0, .slice none 0 0, .int .i64 0, .slice none 0 0, .slice none 0 0, .string ⟨#[]⟩, .int .i64 0, .int .i64 0, .int .i64 0, .slice none 0 0, .string ⟨#[]⟩] rfl rfl 32 _ HBA.out info_size15 rfl (by simp [Value.oneCell']) ?_)
    have hb7 := setRow_heap wa G _ #[.int .i64 4, .int .i64 0, .int .i64 0, .int .i64 (Z8 : Nat), .slice none 0 0, .slice none 0 0, .int .i64 0, .slice none 0 0, .slice none 0 0, .string ⟨#[]⟩, .int .i64 0, .int .i64 0, .int .i64 0, .slice none 0 0, .string ⟨#[]⟩] _ _ HBA.out
    have hm7 := (Mod.refl (· = G) wa).setRow G #[.int .i64 4, .int .i64 0, .int .i64 0, .int .i64 (Z8 : Nat), .slice none 0 0, .slice none 0 0, .int .i64 0, .slice none 0 0, .slice none 0 0, .string ⟨#[]⟩, .int .i64 0, .int .i64 0, .int .i64 0, .slice none 0 0, .string ⟨#[]⟩] (fun _ => rfl)
    generalize World.setRow wa G _ = w7 at *
    refine bodyPost_ret (results_cell_row rfl _ _ G 32 #[.int .i64 4, .int .i64 0, .int .i64 0, .int .i64 (Z8 : Nat), .slice none 0 0, .slice none 0 0, .int .i64 0, .slice none 0 0, .slice none 0 0, .string ⟨#[]⟩, .int .i64 0, .int .i64 0, .int .i64 0, .slice none 0 0, .string ⟨#[]⟩] (0, 0) _ rfl hb7 Try.underlying32 rfl info_size15) rfl ?_
    exact HEND.out _ hm7
  · have e1' : (d0 : Int).tmod 16 = 7 := e1
    clear e1
    have he : eventOf [c0, c1, c2, c3] n = ⟨4, 0, 0, (Z8 : Nat), [], []⟩ := by rw [HEV.out]; rfl
    have HEND : Hid (∀ w7, Mod (· = G) wa w7 → Post (.returned (.agg #[.int .i64 4, .int .i64 0, .int .i64 0, .int .i64 (Z8 : Nat), .slice none 0 0, .slice none 0 0, .int .i64 0, .slice none 0 0, .slice none 0 0, .string ⟨#[]⟩, .int .i64 0, .int .i64 0, .int .i64 0, .slice none 0 0, .string ⟨#[]⟩])) w7) := Lib.hid (fun w7 m7 => HPOST.out _ _ ⟨⟨4, 0, 0, (Z8 : Nat), .slice none 0 0, .slice none 0 0⟩, rfl, by rw [he]; exact ⟨rfl, rfl, rfl, rfl, row_nil _ _, row_nil _ _⟩, (HMA.out).new m7 (fun k hk => by have := HG.out; omega)⟩)
    clear he
    go_wp2_with (refine wpList_store_row rfl _ _ _ rfl G #[.int .i64 4, .int .i64 0, .int .i64 0, .int .i64 (Z8 : Nat), .slice none 0 0, .slice none 0 0, .int .i64 0, .slice none 0 0, .slice none 0 0, .string ⟨#[]⟩, .int .i64 0, .int .i64 0, .int .i64 0, .slice none 0 0, .string ⟨#[]⟩] rfl rfl 32 _ HBA.out info_size15 rfl (by simp [Value.oneCell']) ?_)
    have hb7 := setRow_heap wa G _ #[.int .i64 4, .int .i64 0, .int .i64 0, .int .i64 (Z8 : Nat), .slice none 0 0, .slice none 0 0, .int .i64 0, .slice none 0 0, .slice none 0 0, .string ⟨#[]⟩, .int .i64 0, .int .i64 0, .int .i64 0, .slice none 0 0, .string ⟨#[]⟩] _ _ HBA.out
    have hm7 := (Mod.refl (· = G) wa).setRow G #[.int .i64 4, .int .i64 0, .int .i64 0, .int .i64 (Z8 : Nat), .slice none 0 0, .slice none 0 0, .int .i64 0, .slice none 0 0, .slice none 0 0, .string ⟨#[]⟩, .int .i64 0, .int .i64 0, .int .i64 0, .slice none 0 0, .string ⟨#[]⟩] (fun _ => rfl)
    generalize World.setRow wa G _ = w7 at *
    refine bodyPost_ret (results_cell_row rfl _ _ G 32 #[.int .i64 4, .int .i64 0, .int .i64 0, .int .i64 (Z8 : Nat), .slice none 0 0, .slice none 0 0, .int .i64 0, .slice none 0 0, .slice none 0 0, .string ⟨#[]⟩, .int .i64 0, .int .i64 0, .int .i64 0, .slice none 0 0, .string ⟨#[]⟩] (0, 0) _ rfl hb7 Try.underlying32 rfl info_size15) rfl ?_
    exact HEND.out _ hm7
  · have e1' : (d0 : Int).tmod 16 = 8 := e1
    clear e1
    have he : eventOf [c0, c1, c2, c3] n = ⟨1, 0, 0, (1 + Z5 : Nat), [], []⟩ := by rw [HEV.out]; rfl
    have HEND : Hid (∀ w7, Mod (· = G) wa w7 → Post (.returned (.agg #[.int .i64 1, .int .i64 0, .int .i64 0, .int .i64 (1 + (Z5 : Int)), .slice none 0 0, .slice none 0 0, .int .i64 0, .slice none 0 0, .slice none 0 0, .string ⟨#[]⟩, .int .i64 0, .int .i64 0, .int .i64 0, .slice none 0 0, .string ⟨#[]⟩])) w7) := Lib.hid (fun w7 m7 => HPOST.out _ _ ⟨⟨1, 0, 0, (1 + (Z5 : Int)), .slice none 0 0, .slice none 0 0⟩, rfl, by rw [he]; exact ⟨rfl, rfl, rfl, rfl, row_nil _ _, row_nil _ _⟩, (HMA.out).new m7 (fun k hk => by have := HG.out; omega)⟩)
    clear he
    go_wp2_with (refine wpList_store_row rfl _ _ _ rfl G #[.int .i64 1, .int .i64 0, .int .i64 0, .int .i64 (1 + (Z5 : Int)), .slice none 0 0, .slice none 0 0, .int .i64 0, .slice none 0 0, .slice none 0 0, .string ⟨#[]⟩, .int .i64 0, .int .i64 0, .int .i64 0, .slice none 0 0, .string ⟨#[]⟩] rfl rfl 32 _ HBA.out info_size15 rfl (by simp [Value.oneCell']) ?_)
    have hb7 := setRow_heap wa G _ #[.int .i64 1, .int .i64 0, .int .i64 0, .int .i64 (1 + (Z5 : Int)), .slice none 0 0, .slice none 0 0, .int .i64 0, .slice none 0 0, .slice none 0 0, .string ⟨#[]⟩, .int .i64 0, .int .i64 0, .int .i64 0, .slice none 0 0, .string ⟨#[]⟩] _ _ HBA.out
    have hm7 := (Mod.refl (· = G) wa).setRow G #[.int .i64 1, .int .i64 0, .int .i64 0, .int .i64 (1 + (Z5 : Int)), .slice none 0 0, .slice none 0 0, .int .i64 0, .slice none 0 0, .slice none 0 0, .string ⟨#[]⟩, .int .i64 0, .int .i64 0, .int .i64 0, .slice none 0 0, .string ⟨#[]⟩] (fun _ => rfl)
    generalize World.setRow wa G _ = w7 at *
    refine bodyPost_ret (results_cell_row rfl _ _ G 32 #[.int .i64 1, .int .i64 0, .int .i64 0, .int .i64 (1 + (Z5 : Int)), .slice none 0 0, .slice none 0 0, .int .i64 0, .slice none 0 0, .slice none 0 0, .string ⟨#[]⟩, .int .i64 0, .int .i64 0, .int .i64 0, .slice none 0 0, .string ⟨#[]⟩] (0, 0) _ rfl hb7 Try.underlying32 rfl info_size15) rfl ?_
    exact HEND.out _ hm7
  · have e1' : (d0 : Int).tmod 16 = 9 := e1
    clear e1
    have he : eventOf [c0, c1, c2, c3] n = ⟨5, 0, 0, (Z8 : Nat), [], []⟩ := by rw [HEV.out]; rfl
    have HEND : Hid (∀ w7, Mod (· = G) wa w7 → Post (.returned (.agg #[.int .i64 5, .int .i64 0, .int .i64 0, .int .i64 (Z8 : Nat), .slice none 0 0, .slice none 0 0, .int .i64 0, .slice none 0 0, .slice none 0 0, .string ⟨#[]⟩, .int .i64 0, .int .i64 0, .int .i64 0, .slice none 0 0, .string ⟨#[]⟩])) w7) := Lib.hid (fun w7 m7 => HPOST.out _ _ ⟨⟨5, 0, 0, (Z8 : Nat), .slice none 0 0, .slice none 0 0⟩, rfl, by rw [he]; exact ⟨rfl, rfl, rfl, rfl, row_nil _ _, row_nil _ _⟩, (HMA.out).new m7 (fun k hk => by have := HG.out; omega)⟩)
    clear he
    go_wp2_with (refine wpList_store_row rfl _ _ _ rfl G #[.int .i64 5, .int .i64 0, .int .i64 0, .int .i64 (Z8 : Nat), .slice none 0 0, .slice none 0 0, .int .i64 0, .slice none 0 0, .slice none 0 0, .string ⟨#[]⟩, .int .i64 0, .int .i64 0, .int .i64 0, .slice none 0 0, .string ⟨#[]⟩] rfl rfl 32 _ HBA.out info_size15 rfl (by simp [Value.oneCell']) ?_)
    have hb7 := setRow_heap wa G _ #[.int .i64 5, .int .i64 0, .int .i64 0, .int .i64 (Z8 : Nat), .slice none 0 0, .slice none 0 0, .int .i64 0, .slice none 0 0, .slice none 0 0, .string ⟨#[]⟩, .int .i64 0, .int .i64 0, .int .i64 0, .slice none 0 0, .string ⟨#[]⟩] _ _ HBA.out
    have hm7 := (Mod.refl (· = G) wa).setRow G #[.int .i64 5, .int .i64 0, .int .i64 0, .int .i64 (Z8 : Nat), .slice none 0 0, .slice none 0 0, .int .i64 0, .slice none 0 0, .slice none 0 0, .string ⟨#[]⟩, .int .i64 0, .int .i64 0, .int .i64 0, .slice none 0 0, .string ⟨#[]⟩] (fun _ => rfl)
    generalize World.setRow wa G _ = w7 at *
    refine bodyPost_ret (results_cell_row rfl _ _ G 32 #[.int .i64 5, .int .i64 0, .int .i64 0, .int .i64 (Z8 : Nat), .slice none 0 0, .slice none 0 0, .int .i64 0, .slice none 0 0, .slice none 0 0, .string ⟨#[]⟩, .int .i64 0, .int .i64 0, .int .i64 0, .slice none 0 0, .string ⟨#[]⟩] (0, 0) _ rfl hb7 Try.underlying32 rfl info_size15) rfl ?_
    exact HEND.out _ hm7
  · have e1' : (d0 : Int).tmod 16 = 10 := e1
    clear e1
    have he : eventOf [c0, c1, c2, c3] n = ⟨6, 0, 0, (Z8 : Nat), [], []⟩ := by rw [HEV.out]; rfl
    have HEND : Hid (∀ w7, Mod (· = G) wa w7 → Post (.returned (.agg #[.int .i64 6, .int .i64 0, .int .i64 0, .int .i64 (Z8 : Nat), .slice none 0 0, .slice none 0 0, .int .i64 0, .slice none 0 0, .slice none 0 0, .string ⟨#[]⟩, .int .i64 0, .int .i64 0, .int .i64 0, .slice none 0 0, .string ⟨#[]⟩])) w7) := Lib.hid (fun w7 m7 => HPOST.out _ _ ⟨⟨6, 0, 0, (Z8 : Nat), .slice none 0 0, .slice none 0 0⟩, rfl, by rw [he]; exact ⟨rfl, rfl, rfl, rfl, row_nil _ _, row_nil _ _⟩, (HMA.out).new m7 (fun k hk => by have := HG.out; omega)⟩)
    clear he
    go_wp2_with (refine wpList_store_row rfl _ _ _ rfl G #[.int .i64 6, .int .i64 0, .int .i64 0, .int .i64 (Z8 : Nat), .slice none 0 0, .slice none 0 0, .int .i64 0, .slice none 0 0, .slice none 0 0, .string ⟨#[]⟩, .int .i64 0, .int .i64 0, .int .i64 0, .slice none 0 0, .string ⟨#[]⟩] rfl rfl 32 _ HBA.out info_size15 rfl (by simp [Value.oneCell']) ?_)
    have hb7 := setRow_heap wa G _ #[.int .i64 6, .int .i64 0, .int .i64 0, .int .i64 (Z8 : Nat), .slice none 0 0, .slice none 0 0, .int .i64 0, .slice none 0 0, .slice none 0 0, .string ⟨#[]⟩, .int .i64 0, .int .i64 0, .int .i64 0, .slice none 0 0, .string ⟨#[]⟩] _ _ HBA.out
    have hm7 := (Mod.refl (· = G) wa).setRow G #[.int .i64 6, .int .i64 0, .int .i64 0, .int .i64 (Z8 : Nat), .slice none 0 0, .slice none 0 0, .int .i64 0, .slice none 0 0, .slice none 0 0, .string ⟨#[]⟩, .int .i64 0, .int .i64 0, .int .i64 0, .slice none 0 0, .string ⟨#[]⟩] (fun _ => rfl)
    generalize World.setRow wa G _ = w7 at *
    refine bodyPost_ret (results_cell_row rfl _ _ G 32 #[.int .i64 6, .int .i64 0, .int .i64 0, .int .i64 (Z8 : Nat), .slice none 0 0, .slice none 0 0, .int .i64 0, .slice none 0 0, .slice none 0 0, .string ⟨#[]⟩, .int .i64 0, .int .i64 0, .int .i64 0, .slice none 0 0, .string ⟨#[]⟩] (0, 0) _ rfl hb7 Try.underlying32 rfl info_size15) rfl ?_
    exact HEND.out _ hm7
  · have e1' : (d0 : Int).tmod 16 = 11 := e1
    clear e1
    have he : eventOf [c0, c1, c2, c3] n = ⟨2, (Wh : Nat), 0, (Y7 : Nat) - 3, [], []⟩ := by rw [HEV.out]; rfl
    have HEND : Hid (∀ w7, Mod (· = G) wa w7 → Post (.returned (.agg #[.int .i64 2, .int .i64 (Wh : Nat), .int .i64 0, .int .i64 ((Y7 : Int) - 3), .slice none 0 0, .slice none 0 0, .int .i64 0, .slice none 0 0, .slice none 0 0, .string ⟨#[]⟩, .int .i64 0, .int .i64 0, .int .i64 0, .slice none 0 0, .string ⟨#[]⟩])) w7) := Lib.hid (fun w7 m7 => HPOST.out _ _ ⟨⟨2, (Wh : Nat), 0, ((Y7 : Int) - 3), .slice none 0 0, .slice none 0 0⟩, rfl, by rw [he]; exact ⟨rfl, rfl, rfl, rfl, row_nil _ _, row_nil _ _⟩, (HMA.out).new m7 (fun k hk => by have := HG.out; omega)⟩)
    clear he
    go_wp2_with (refine wpList_store_row rfl _ _ _ rfl G #[.int .i64 2, .int .i64 (Wh : Nat), .int .i64 0, .int .i64 ((Y7 : Int) - 3), .slice none 0 0, .slice none 0 0, .int .i64 0, .slice none 0 0, .slice none 0 0, .string ⟨#[]⟩, .int .i64 0, .int .i64 0, .int .i64 0, .slice none 0 0, .string ⟨#[]⟩] rfl rfl 32 _ HBA.out info_size15 rfl (by simp [Value.oneCell']) ?_)
    have hb7 := setRow_heap wa G _ #[.int .i64 2, .int .i64 (Wh : Nat), .int .i64 0, .int .i64 ((Y7 : Int) - 3), .slice none 0 0, .slice none 0 0, .int .i64 0, .slice none 0 0, .slice none 0 0, .string ⟨#[]⟩, .int .i64 0, .int .i64 0, .int .i64 0, .slice none 0 0, .string ⟨#[]⟩] _ _ HBA.out
    have hm7 := (Mod.refl (· = G) wa).setRow G #[.int .i64 2, .int .i64 (Wh : Nat), .int .i64 0, .int .i64 ((Y7 : Int) - 3), .slice none 0 0, .slice none 0 0, .int .i64 0, .slice none 0 0, .slice none 0 0, .string ⟨#[]⟩, .int .i64 0, .int .i64 0, .int .i64 0, .slice none 0 0, .string ⟨#[]⟩] (fun _ => rfl)
    generalize World.setRow wa G _ = w7 at *
    refine bodyPost_ret (results_cell_row rfl _ _ G 32 #[.int .i64 2, .int .i64 (Wh : Nat), .int .i64 0, .int .i64 ((Y7 : Int) - 3), .slice none 0 0, .slice none 0 0, .int .i64 0, .slice none 0 0, .slice none 0 0, .string ⟨#[]⟩, .int .i64 0, .int .i64 0, .int .i64 0, .slice none 0 0, .string ⟨#[]⟩] (0, 0) _ rfl hb7 Try.underlying32 rfl info_size15) rfl ?_
    exact HEND.out _ hm7
  · have e1' : (d0 : Int).tmod 16 = 12 := e1
    clear e1
    go_wp2_with fail
    go_loopw [13, 14] (fun v3 v5 wr => ∃ (i : Nat) (p : Option Addr) (q : Nat), i ≤ 8 ∧ v5 = .int .i64 i ∧ v3 = .slice p i q ∧ Hid (IsVec (fun k => G + 1 ≤ k) wr 4 1 (.slice p i q) i (bools (bitsTo d2 i))) ∧ Hid (Mod nil wa wr)) (fun _ v _ => 8 - (intOf v).toNat)
    case atStart => exact ⟨0, none, 0, by omega, rfl, rfl, Lib.hid (IsVec.nil _ _ _ _), Lib.hid (Mod.refl _ _)⟩
    case round =>
      obtain ⟨i, p, q, hi, rfl, rfl, HVR, HMR⟩ := hrel
      by_cases hlt : i < 8
      · obtain ⟨v7, w7, hrun, hvec, hmod⟩ := bool_append (b := decide (bits .and .u8 ((d2 : Int) / 2 ^ i) 1 = 1)) 26 HVR.out rfl (by omega)
        obtain ⟨p7, q7, rfl⟩ := hvec.form
        have HRUN := Lib.hid hrun
        have HV7 : Hid (IsVec (fun k => G + 1 ≤ k) w7 4 1 (.slice p7 (i + 1) q7) (i + 1) (bools (bitsTo d2 (i + 1)))) := Lib.hid (by
          rw [bit_one d2 hb2 i] at hvec
          rw [bitsTo_succ]
          simp only [bools, List.map_append, List.map_cons, List.map_nil] at hvec ⊢
          exact hvec.mono (fun k _ hk => hk.elim id (fun h => by have := HMR.out.size; have := heap_lt HBA.out; omega)))
        have HM7 : Hid (Mod nil wa w7) := Lib.hid (HMR.out.trans hmod (fun k hk h => by have := HSZ.out; omega))
        clear hrun hvec hmod
        go_wp2_with (first | (at_builtin; refine wpList_append_run rfl _ _ _ _ rfl rfl rfl HRUN.out ?_))
        exact ⟨⟨i + 1, p7, q7, by omega, rfl, rfl, HV7, HM7⟩, by simp [intOf] <;> omega⟩
      · obtain rfl : i = 8 := by omega
        have HBB := Lib.hid (HMR.out.keep HBA.out)
        have he : eventOf [c0, c1, c2, c3] n = ⟨8, (Wh : Nat), 0, 0, [], bitsTo d2 8⟩ := by rw [HEV.out]; rfl
        have HEND : Hid (∀ w7, Mod (· = G) wr w7 → Post (.returned (.agg #[.int .i64 8, .int .i64 (Wh : Nat), .int .i64 0, .int .i64 0, .slice none 0 0, .slice p 8 q, .int .i64 0, .slice none 0 0, .slice none 0 0, .string ⟨#[]⟩, .int .i64 0, .int .i64 0, .int .i64 0, .slice none 0 0, .string ⟨#[]⟩])) w7) := Lib.hid (fun w7 m7 => HPOST.out _ _ ⟨⟨8, (Wh : Nat), 0, 0, .slice none 0 0, .slice p 8 q⟩, rfl, by rw [he]; exact ⟨rfl, rfl, rfl, rfl, row_nil _ _, ((HVR.out.row).mod m7 (fun k _ hk he => by omega)).mono (fun k _ hk => by have := HG.out; omega)⟩, (HMA.out.thenNil HMR.out).new m7 (fun k hk => by have := HG.out; omega)⟩)
        clear he
        go_wp2_with (refine wpList_store_row rfl _ _ _ rfl G #[.int .i64 8, .int .i64 (Wh : Nat), .int .i64 0, .int .i64 0, .slice none 0 0, .slice p 8 q, .int .i64 0, .slice none 0 0, .slice none 0 0, .string ⟨#[]⟩, .int .i64 0, .int .i64 0, .int .i64 0, .slice none 0 0, .string ⟨#[]⟩] rfl rfl 32 _ HBB.out info_size15 rfl (by simp [Value.oneCell']) ?_)
        have hb7 := setRow_heap wr G _ #[.int .i64 8, .int .i64 (Wh : Nat), .int .i64 0, .int .i64 0, .slice none 0 0, .slice p 8 q, .int .i64 0, .slice none 0 0, .slice none 0 0, .string ⟨#[]⟩, .int .i64 0, .int .i64 0, .int .i64 0, .slice none 0 0, .string ⟨#[]⟩] _ _ HBB.out
        have hm7 := (Mod.refl (· = G) wr).setRow G #[.int .i64 8, .int .i64 (Wh : Nat), .int .i64 0, .int .i64 0, .slice none 0 0, .slice p 8 q, .int .i64 0, .slice none 0 0, .slice none 0 0, .string ⟨#[]⟩, .int .i64 0, .int .i64 0, .int .i64 0, .slice none 0 0, .string ⟨#[]⟩] (fun _ => rfl)
        generalize World.setRow wr G _ = w7 at *
        refine bodyPost_ret (results_cell_row rfl _ _ G 32 #[.int .i64 8, .int .i64 (Wh : Nat), .int .i64 0, .int .i64 0, .slice none 0 0, .slice p 8 q, .int .i64 0, .slice none 0 0, .slice none 0 0, .string ⟨#[]⟩, .int .i64 0, .int .i64 0, .int .i64 0, .slice none 0 0, .string ⟨#[]⟩] (0, 0) _ rfl hb7 Try.underlying32 rfl info_size15) rfl ?_
        exact HEND.out _ hm7
  · have e1' : (d0 : Int).tmod 16 = 13 := e1
    clear e1
    have he : eventOf [c0, c1, c2, c3] n = ⟨9, (Wh : Nat), 0, (Z12 : Nat), [], []⟩ := by rw [HEV.out]; rfl
    have HEND : Hid (∀ w7, Mod (· = G) wa w7 → Post (.returned (.agg #[.int .i64 9, .int .i64 (Wh : Nat), .int .i64 0, .int .i64 (Z12 : Nat), .slice none 0 0, .slice none 0 0, .int .i64 0, .slice none 0 0, .slice none 0 0, .string ⟨#[]⟩, .int .i64 0, .int .i64 0, .int .i64 0, .slice none 0 0, .string ⟨#[]⟩])) w7) := Lib.hid (fun w7 m7 => HPOST.out _ _ ⟨⟨9, (Wh : Nat), 0, (Z12 : Nat), .slice none 0 0, .slice none 0 0⟩, rfl, by rw [he]; exact ⟨rfl, rfl, rfl, rfl, row_nil _ _, row_nil _ _⟩, (HMA.out).new m7 (fun k hk => by have := HG.out; omega)⟩)
    clear he
    go_wp2_with (refine wpList_store_row rfl _ _ _ rfl G #[.int .i64 9, .int .i64 (Wh : Nat), .int .i64 0, .int .i64 (Z12 : Nat), .slice none 0 0, .slice none 0 0, .int .i64 0, .slice none 0 0, .slice none 0 0, .string ⟨#[]⟩, .int .i64 0, .int .i64 0, .int .i64 0, .slice none 0 0, .string ⟨#[]⟩] rfl rfl 32 _ HBA.out info_size15 rfl (by simp [Value.oneCell']) ?_)
    have hb7 := setRow_heap wa G _ #[.int .i64 9, .int .i64 (Wh : Nat), .int .i64 0, .int .i64 (Z12 : Nat), .slice none 0 0, .slice none 0 0, .int .i64 0, .slice none 0 0, .slice none 0 0, .string ⟨#[]⟩, .int .i64 0, .int .i64 0, .int .i64 0, .slice none 0 0, .string ⟨#[]⟩] _ _ HBA.out
    have hm7 := (Mod.refl (· = G) wa).setRow G #[.int .i64 9, .int .i64 (Wh : Nat), .int .i64 0, .int .i64 (Z12 : Nat), .slice none 0 0, .slice none 0 0, .int .i64 0, .slice none 0 0, .slice none 0 0, .string ⟨#[]⟩, .int .i64 0, .int .i64 0, .int .i64 0, .slice none 0 0, .string ⟨#[]⟩] (fun _ => rfl)
    generalize World.setRow wa G _ = w7 at *
    refine bodyPost_ret (results_cell_row rfl _ _ G 32 #[.int .i64 9, .int .i64 (Wh : Nat), .int .i64 0, .int .i64 (Z12 : Nat), .slice none 0 0, .slice none 0 0, .int .i64 0, .slice none 0 0, .slice none 0 0, .string ⟨#[]⟩, .int .i64 0, .int .i64 0, .int .i64 0, .slice none 0 0, .string ⟨#[]⟩] (0, 0) _ rfl hb7 Try.underlying32 rfl info_size15) rfl ?_
    exact HEND.out _ hm7
  · have e1' : (d0 : Int).tmod 16 = 14 := e1
    clear e1
    have he : eventOf [c0, c1, c2, c3] n = ⟨7, (Wh : Nat), 0, 0, [c1, c2, c3], []⟩ := by rw [HEV.out]; rfl
    have hbm : (wa.alloc (.cells #[.int .u8 d1, .int .u8 d2, .int .u8 d3] 5)).heap[wa.heap.size]? = some (.cells (bys [c1, c2, c3]).toArray 5 (0, 0)) := by rw [← hd1, ← hd2, ← hd3]; exact heap_alloc_new _ _
    have hmm : Mod nil wa (wa.alloc (.cells #[.int .u8 d1, .int .u8 d2, .int .u8 d3] 5)) := (Mod.refl nil wa).alloc _
    have HBB := Lib.hid (hmm.keep HBA.out)
    have HEND : Hid (∀ w7, Mod (· = G) (wa.alloc (.cells #[.int .u8 d1, .int .u8 d2, .int .u8 d3] 5)) w7 → Post (.returned (.agg #[.int .i64 7, .int .i64 (Wh : Nat), .int .i64 0, .int .i64 0, .slice (some ⟨wa.heap.size, 0, none⟩) 3 3, .slice none 0 0, .int .i64 0, .slice none 0 0, .slice none 0 0, .string ⟨#[]⟩, .int .i64 0, .int .i64 0, .int .i64 0, .slice none 0 0, .string ⟨#[]⟩])) w7) := Lib.hid (fun w7 m7 => HPOST.out _ _ ⟨⟨7, (Wh : Nat), 0, 0, .slice (some ⟨wa.heap.size, 0, none⟩) 3 3, .slice none 0 0⟩, rfl, by rw [he]; exact ⟨rfl, rfl, rfl, rfl, ((IsRow.ofBlock (S := fun k => k = wa.heap.size) hbm rfl 3 3 rfl).mod m7 (fun k _ hk he => by have := HSZ.out; omega)).mono (fun k _ hk => by have := HG.out; have := HSZ.out; omega), row_nil _ _⟩, (HMA.out.thenNil hmm).new m7 (fun k hk => by have := HG.out; omega)⟩)
    clear he hbm hmm
    go_wp2_with (refine wpList_store_row rfl _ _ _ rfl G #[.int .i64 7, .int .i64 (Wh : Nat), .int .i64 0, .int .i64 0, .slice (some ⟨wa.heap.size, 0, none⟩) 3 3, .slice none 0 0, .int .i64 0, .slice none 0 0, .slice none 0 0, .string ⟨#[]⟩, .int .i64 0, .int .i64 0, .int .i64 0, .slice none 0 0, .string ⟨#[]⟩] rfl rfl 32 _ HBB.out info_size15 rfl (by simp [Value.oneCell']) ?_)
    have hb7 := setRow_heap (wa.alloc (.cells #[.int .u8 d1, .int .u8 d2, .int .u8 d3] 5)) G _ #[.int .i64 7, .int .i64 (Wh : Nat), .int .i64 0, .int .i64 0, .slice (some ⟨wa.heap.size, 0, none⟩) 3 3, .slice none 0 0, .int .i64 0, .slice none 0 0, .slice none 0 0, .string ⟨#[]⟩, .int .i64 0, .int .i64 0, .int .i64 0, .slice none 0 0, .string ⟨#[]⟩] _ _ HBB.out
    have hm7 := (Mod.refl (· = G) (wa.alloc (.cells #[.int .u8 d1, .int .u8 d2, .int .u8 d3] 5))).setRow G #[.int .i64 7, .int .i64 (Wh : Nat), .int .i64 0, .int .i64 0, .slice (some ⟨wa.heap.size, 0, none⟩) 3 3, .slice none 0 0, .int .i64 0, .slice none 0 0, .slice none 0 0, .string ⟨#[]⟩, .int .i64 0, .int .i64 0, .int .i64 0, .slice none 0 0, .string ⟨#[]⟩] (fun _ => rfl)
    generalize World.setRow (wa.alloc (.cells #[.int .u8 d1, .int .u8 d2, .int .u8 d3] 5)) G _ = w7 at *
    refine bodyPost_ret (results_cell_row rfl _ _ G 32 #[.int .i64 7, .int .i64 (Wh : Nat), .int .i64 0, .int .i64 0, .slice (some ⟨wa.heap.size, 0, none⟩) 3 3, .slice none 0 0, .int .i64 0, .slice none 0 0, .slice none 0 0, .string ⟨#[]⟩, .int .i64 0, .int .i64 0, .int .i64 0, .slice none 0 0, .string ⟨#[]⟩] (0, 0) _ rfl hb7 Try.underlying32 rfl info_size15) rfl ?_
    exact HEND.out _ hm7
  · have e1' : (d0 : Int).tmod 16 = 15 := e1
    clear e1
    have he : eventOf [c0, c1, c2, c3] n = ⟨11, (X : Nat), (Y2 : Nat), (1 + Z4 : Nat), [0, 0, 0], []⟩ := by rw [HEV.out]; rfl
    have hbm : (wa.alloc (.cells #[.int .u8 0, .int .u8 0, .int .u8 0] 5)).heap[wa.heap.size]? = some (.cells (bys [0, 0, 0]).toArray 5 (0, 0)) := by exact heap_alloc_new _ _
    have hmm : Mod nil wa (wa.alloc (.cells #[.int .u8 0, .int .u8 0, .int .u8 0] 5)) := (Mod.refl nil wa).alloc _
    have HBB := Lib.hid (hmm.keep HBA.out)
    have HEND : Hid (∀ w7, Mod (· = G) (wa.alloc (.cells #[.int .u8 0, .int .u8 0, .int .u8 0] 5)) w7 → Post (.returned (.agg #[.int .i64 11, .int .i64 (X : Nat), .int .i64 (Y2 : Nat), .int .i64 (1 + (Z4 : Int)), .slice (some ⟨wa.heap.size, 0, none⟩) 3 3, .slice none 0 0, .int .i64 0, .slice none 0 0, .slice none 0 0, .string ⟨#[]⟩, .int .i64 0, .int .i64 0, .int .i64 0, .slice none 0 0, .string ⟨#[]⟩])) w7) := Lib.hid (fun w7 m7 => HPOST.out _ _ ⟨⟨11, (X : Nat), (Y2 : Nat), (1 + (Z4 : Int)), .slice (some ⟨wa.heap.size, 0, none⟩) 3 3, .slice none 0 0⟩, rfl, by rw [he]; exact ⟨rfl, rfl, rfl, rfl, ((IsRow.ofBlock (S := fun k => k = wa.heap.size) hbm rfl 3 3 rfl).mod m7 (fun k _ hk he => by have := HSZ.out; omega)).mono (fun k _ hk => by have := HG.out; have := HSZ.out; omega), row_nil _ _⟩, (HMA.out.thenNil hmm).new m7 (fun k hk => by have := HG.out; omega)⟩)
    clear he hbm hmm
    go_wp2_with (refine wpList_store_row rfl _ _ _ rfl G #[.int .i64 11, .int .i64 (X : Nat), .int .i64 (Y2 : Nat), .int .i64 (1 + (Z4 : Int)), .slice (some ⟨wa.heap.size, 0, none⟩) 3 3, .slice none 0 0, .int .i64 0, .slice none 0 0, .slice none 0 0, .string ⟨#[]⟩, .int .i64 0, .int .i64 0, .int .i64 0, .slice none 0 0, .string ⟨#[]⟩] rfl rfl 32 _ HBB.out info_size15 rfl (by simp [Value.oneCell']) ?_)
    have hb7 := setRow_heap (wa.alloc (.cells #[.int .u8 0, .int .u8 0, .int .u8 0] 5)) G _ #[.int .i64 11, .int .i64 (X : Nat), .int .i64 (Y2 : Nat), .int .i64 (1 + (Z4 : Int)), .slice (some ⟨wa.heap.size, 0, none⟩) 3 3, .slice none 0 0, .int .i64 0, .slice none 0 0, .slice none 0 0, .string ⟨#[]⟩, .int .i64 0, .int .i64 0, .int .i64 0, .slice none 0 0, .string ⟨#[]⟩] _ _ HBB.out
    have hm7 := (Mod.refl (· = G) (wa.alloc (.cells #[.int .u8 0, .int .u8 0, .int .u8 0] 5))).setRow G #[.int .i64 11, .int .i64 (X : Nat), .int .i64 (Y2 : Nat), .int .i64 (1 + (Z4 : Int)), .slice (some ⟨wa.heap.size, 0, none⟩) 3 3, .slice none 0 0, .int .i64 0, .slice none 0 0, .slice none 0 0, .string ⟨#[]⟩, .int .i64 0, .int .i64 0, .int .i64 0, .slice none 0 0, .string ⟨#[]⟩] (fun _ => rfl)
    generalize World.setRow (wa.alloc (.cells #[.int .u8 0, .int .u8 0, .int .u8 0] 5)) G _ = w7 at *
    refine bodyPost_ret (results_cell_row rfl _ _ G 32 #[.int .i64 11, .int .i64 (X : Nat), .int .i64 (Y2 : Nat), .int .i64 (1 + (Z4 : Int)), .slice (some ⟨wa.heap.size, 0, none⟩) 3 3, .slice none 0 0, .int .i64 0, .slice none 0 0, .slice none 0 0, .string ⟨#[]⟩, .int .i64 0, .int .i64 0, .int .i64 0, .slice none 0 0, .string ⟨#[]⟩] (0, 0) _ rfl hb7 Try.underlying32 rfl info_size15) rfl ?_
    exact HEND.out _ hm7
end Go.Proofs.Ytlkhihdgaimboaa

/- cflref27.Trades. -/
import Derived.Test.YtlkhihdgaimboaaTaleB
import Derived.Test.YtlkhihdgaimboaaTail
import Derived.Deep.RegionHeld3
import Derived.StillTailTactics
namespace Go.Proofs.Ytlkhihdgaimboaa
open Go.RowKit

/-- append of one trade -/
theorem trade_append {S : Nat → Prop} {w : World} (ty : TypeId) {v : Value} {n g : Nat} {xs : List Value} {t : T7} (hv : IsVec S w 39 7 v n xs) (hg : w.heap.size = g) (hb : n + 1 ≤ 100000) :
    ∃ v' w', (Builtin.append_ #[36, 36] ty #[v, .slice (some ⟨g, 0, none⟩) 1 1]).run Try.prog (w.alloc (.cells #[.int .i64 t.id, .int .i64 t.buyer, .int .i64 t.seller, .int .i64 t.cash, .int .i64 t.price, .int .i64 t.asset, .int .i64 t.qty] 39)) = .ok v' w' ∧ IsVec (fun k => S k ∨ w.heap.size ≤ k) w' 39 7 v' (n + 1) (xs ++ trades [t]) ∧ Mod S w w' := by
  obtain ⟨i0, hi, hz0, hz1, hz2⟩ := info_parts info_trade
  have hm : Mod nil w (w.alloc (.cells (trades [t]).toArray 39)) := (Mod.refl nil w).alloc _
  obtain ⟨v', w', hr, h2, h3⟩ := vec_append (P := Try.prog) 36 ty 39 i0 _ 7 56 Try.underlying36 hi hz0 hz1 hz2 rfl (by omega) (hv.modNil hm) (cells_at w 39 (trades [t]) 1 1 g hg) (trades_length [t]) (by simp [trades, T7.vals, Value.oneCell']) (by unfold maxLen; omega) (by omega)
  exact ⟨v', w', hr, h2.mono (fun k _ hk => hk.imp id (fun h => Nat.le_trans hm.size h)), hm.ofNil.trans h3 (fun _ _ h => h)⟩
set_option maxRecDepth 100000 in
set_option maxHeartbeats 1000000 in
theorem refTrades (T : Nat → Prop) (p0 : Option Addr) (len cap : Nat) (b : List UInt8) (n : Int) (w : World) (hrow : IsRow T w (.slice p0 len cap) (bys b)) (hcap : len ≤ cap) (hl : b.length ≤ 1099511627776) :
    Calls Try.prog 10 #[.slice p0 len cap, .int .i64 n] w fun e w' => ∃ v', e = .returned v' ∧ IsVec (fun k => w.heap.size ≤ k) w' 39 7 v' (tradesAll b n).length (trades (tradesAll b n)) ∧ Mod nil w w' := by
  refine (?_ : ∀ Post : Ending → World → Prop, Hid (∀ e w', (∃ v', e = .returned v' ∧ IsVec (fun k => w.heap.size ≤ k) w' 39 7 v' (tradesAll b n).length (trades (tradesAll b n)) ∧ Mod nil w w') → Post e w') → Calls Try.prog 10 #[.slice p0 len cap, .int .i64 n] w Post) _ (Lib.hid (fun _ _ h => h))
  intro Post HPOST
  have HROW := Lib.hid hrow
  obtain rfl : len = b.length := by
    obtain ⟨_, _, h, _⟩ := hrow
    simp only [Value.slice.injEq, bys_length] at h
    exact h.2.1
  obtain ⟨L, hL⟩ : ∃ L, b.length = L := ⟨_, rfl⟩
  rw [hL] at HROW hl hcap ⊢
  have HLB := Lib.hid hL
  clear hrow hL
  by_cases hn : 2 ≤ n ∧ n ≤ 16
  case neg =>
    have hall : tradesAll b n = [] := by unfold tradesAll; rw [if_neg hn]
    have HALL := Lib.hid hall
    clear hall
    rcases (show n < 2 ∨ (¬ n < 2 ∧ 16 < n) by omega) with h | ⟨h, h'⟩
    all_goals
      clear hn
      go_enter Try.func10, Try.ntmps10
      go_wp2_with fail
      exact HPOST.out _ _ ⟨_, rfl, by rw [HALL.out]; exact IsVec.nil _ _ _ _, Mod.refl _ _⟩
  case pos =>
  obtain ⟨nn, rfl⟩ : ∃ nn : Nat, n = nn := ⟨n.toNat, by omega⟩
  obtain ⟨K, hK⟩ : ∃ K, min (L / 5) 200 = K := ⟨_, rfl⟩
  have HALL : Hid (tradesAll b (nn : Int) = tradesTo b nn K) := Lib.hid (by unfold tradesAll; rw [if_pos hn, HLB.out, hK]; rfl)
  have hn2 : ¬ (nn : Int) < 2 := by omega
  have hn16 : ¬ (16 : Int) < (nn : Int) := by omega
  have hk200 : K ≤ 200 := by omega
  have hk5 : 5 * K ≤ L := by omega
  have hkk : K < 200 → L < 5 * K + 5 := by omega
  have hnn2 : 2 ≤ nn := by omega
  have hnn16 : nn ≤ 16 := by omega
  clear hK hn
  obtain ⟨g, hg⟩ : ∃ g, w.heap.size = g := ⟨_, rfl⟩
  have HG := Lib.hid hg
  clear hg
  go_enter Try.func10, Try.ntmps10
  go_wp2_with fail
  go_loopw [5, 6] (fun v5 v6 wr => ∃ (i : Nat) (p : Option Addr) (q : Nat), i ≤ K ∧ v6 = .int .i64 i ∧ v5 = .slice p i q ∧ Hid (IsVec (fun k => g ≤ k) wr 39 7 (.slice p i q) i (trades (tradesTo b nn i))) ∧ Hid (Mod nil w wr)) (fun _ v6 _ => K - (intOf v6).toNat)
  case atStart => exact ⟨0, none, 0, by omega, rfl, rfl, Lib.hid (IsVec.nil _ _ _ _), Lib.hid (Mod.refl _ _)⟩
  case round =>
    obtain ⟨i, p, q, hi, rfl, rfl, HVR, HMR⟩ := hrel
    by_cases hlt : i < K
    · have t1 : decide ((5 : Int) * (i : Int) + 4 < (L : Int)) = true := by simp; omega
      have t2 : decide ((i : Int) < 200) = true := by simp; omega
      have t1' : (5 : Int) * (i : Int) + 4 < (L : Int) := by omega
      have t2' : i < 200 := by omega
      obtain ⟨gb, o, rfl, hgb⟩ : ∃ gb o, p0 = some ⟨gb, o, none⟩ ∧ gb < w.heap.size := by
        obtain ⟨p', c', hp, hc⟩ := HROW.out
        obtain ⟨b', o', h1, _, h3, _⟩ := hc 0 (by rw [bys_length, HLB.out]; omega)
        simp only [Value.slice.injEq] at hp
        obtain ⟨rfl, -, -⟩ := hp
        exact ⟨b', o', h1, h3⟩
      have hra : ∀ j, j < 5 → wr.cell? ⟨gb, o + 5 * i + j, none⟩ = some (.int .u8 (b.getD (5 * i + j) 0).toNat) := fun j hj => by
        obtain ⟨p', c', hp, hc⟩ := HROW.out
        obtain ⟨b', o', h1, _, h3, h4⟩ := hc (5 * i + j) (by rw [bys_length, HLB.out]; omega)
        simp only [Value.slice.injEq] at hp
        obtain ⟨rfl, -, -⟩ := hp
        simp only [Option.some.injEq, Addr.mk.injEq, and_true] at h1
        obtain ⟨rfl, rfl⟩ := h1
        rw [bys_getD _ _ (by rw [HLB.out]; omega)] at h4
        have := cell_kept h4 HMR.out h3 (not_nil _)
        rw [Nat.add_assoc]
        exact this
      have a0 := hra 0 (by omega)
      have a1 := hra 1 (by omega)
      have a2 := hra 2 (by omega)
      have a3 := hra 3 (by omega)
      have a4 := hra 4 (by omega)
      rw [Nat.add_zero] at a0
      clear hra
      generalize hd0 : (b.getD (5 * i + 0) 0).toNat = d0 at *
      generalize hd1 : (b.getD (5 * i + 1) 0).toNat = d1 at *
      generalize hd2 : (b.getD (5 * i + 2) 0).toNat = d2 at *
      generalize hd3 : (b.getD (5 * i + 3) 0).toNat = d3 at *
      generalize hd4 : (b.getD (5 * i + 4) 0).toNat = d4 at *
      have HD := Lib.hid (And.intro hd0 (And.intro hd1 (And.intro hd2 (And.intro hd3 hd4))))
      clear hd0 hd1 hd2 hd3 hd4
      go_wp2_with fail
      have hb0 : d0 < 256 := by rw [← HD.out.1]; exact UInt8.toNat_lt _
      have hb1 : d1 < 256 := by rw [← HD.out.2.1]; exact UInt8.toNat_lt _
      have hb2 : d2 < 256 := by rw [← HD.out.2.2.1]; exact UInt8.toNat_lt _
      have hb3 : d3 < 256 := by rw [← HD.out.2.2.2.1]; exact UInt8.toNat_lt _
      have hb4 : d4 < 256 := by rw [← HD.out.2.2.2.2]; exact UInt8.toNat_lt _
      obtain ⟨X0, hX0⟩ : ∃ X, d0 % nn = X := ⟨_, rfl⟩
      obtain ⟨X2, hX2⟩ : ∃ X, d2 % 2 = X := ⟨_, rfl⟩
      obtain ⟨X3, hX3⟩ : ∃ X, d3 % 50 = X := ⟨_, rfl⟩
      obtain ⟨Y2, hY2⟩ : ∃ X, d2 / 2 = X := ⟨_, rfl⟩
      obtain ⟨Z2, hZ2⟩ : ∃ X, Y2 % 2 = X := ⟨_, rfl⟩
      obtain ⟨X4, hX4⟩ : ∃ X, d4 % 50 = X := ⟨_, rfl⟩
      have HXS := Lib.hid (And.intro hX0 (And.intro hX2 (And.intro hX3 (And.intro hY2 (And.intro hZ2 hX4)))))
      have m0 : (d0 : Int).tmod (nn : Int) = (X0 : Int) := by rw [← hX0]; rfl
      have m2 : (d2 : Int).tmod 2 = (X2 : Int) := by rw [← hX2]; rfl
      have m3 : (d3 : Int).tmod 50 = (X3 : Int) := by rw [← hX3]; rfl
      have m4 : (d4 : Int).tmod 50 = (X4 : Int) := by rw [← hX4]; rfl
      have hY256 : Y2 < 256 := by omega
      have m5 : (d2 : Int).tdiv 2 = (Y2 : Int) := by rw [← hY2]; rfl
      have m6 : (Y2 : Int).tmod 2 = (Z2 : Int) := by rw [← hZ2]; rfl
      have s3 : IntKind.i64.wrap (1 + (X3 : Int)) = ((1 + X3 : Nat) : Int) := by rw [IntKind.wrap_i64]; omega
      have s4 : IntKind.i64.wrap (1 + (X4 : Int)) = ((1 + X4 : Nat) : Int) := by rw [IntKind.wrap_i64]; omega
      have hx0 : X0 < nn := by rw [← hX0]; exact Nat.mod_lt _ (by omega)
      clear hX0 hX2 hX3 hX4 hY2 hZ2
      have hnz : ¬ (nn : Int) = 0 := by omega
      have hnz' : ¬ nn = 0 := by omega
      have w0 : IntKind.i64.wrap (d0 : Int) = (d0 : Int) := by rw [IntKind.wrap_i64]; omega
      have w2 : IntKind.i64.wrap (d2 : Int) = (d2 : Int) := by rw [IntKind.wrap_i64]; omega
      have w3 : IntKind.i64.wrap (d3 : Int) = (d3 : Int) := by rw [IntKind.wrap_i64]; omega
      have w4 : IntKind.i64.wrap (d4 : Int) = (d4 : Int) := by rw [IntKind.wrap_i64]; omega
      have w5 : IntKind.i64.wrap (Y2 : Int) = (Y2 : Int) := by rw [IntKind.wrap_i64]; omega
      have hgw : gb < wr.heap.size := by have := HMR.out.size; omega
      have c0 : ∀ ob, (wr.alloc ob).cell? ⟨gb, o + 5 * i, none⟩ = some (.int .u8 d0) := fun ob => cell_kept a0 ((Mod.refl nil _).alloc ob) hgw (not_nil _)
      have c2 : ∀ ob, (wr.alloc ob).cell? ⟨gb, o + 5 * i + 2, none⟩ = some (.int .u8 d2) := fun ob => cell_kept a2 ((Mod.refl nil _).alloc ob) hgw (not_nil _)
      have c3 : ∀ ob, (wr.alloc ob).cell? ⟨gb, o + 5 * i + 3, none⟩ = some (.int .u8 d3) := fun ob => cell_kept a3 ((Mod.refl nil _).alloc ob) hgw (not_nil _)
      have c4 : ∀ ob, (wr.alloc ob).cell? ⟨gb, o + 5 * i + 4, none⟩ = some (.int .u8 d4) := fun ob => cell_kept a4 ((Mod.refl nil _).alloc ob) hgw (not_nil _)
      obtain ⟨G, hG⟩ : ∃ G, wr.heap.size = G := ⟨_, rfl⟩
      have HGR := Lib.hid hG
      clear hG
      go_region_held3 (fun w' => w'.cell? ⟨gb, o + 5 * i, none⟩ = some (.int .u8 d0) ∧ w'.cell? ⟨gb, o + 5 * i + 2, none⟩ = some (.int .u8 d2) ∧ w'.cell? ⟨gb, o + 5 * i + 3, none⟩ = some (.int .u8 d3) ∧ w'.cell? ⟨gb, o + 5 * i + 4, none⟩ = some (.int .u8 d4)) (first | exact ⟨a0, a2, a3, a4⟩ | exact ⟨c0 _, c2 _, c3 _, c4 _⟩) (fail)
      have hgG : g ≤ G := by have := HGR.out; have := HMR.out.size; have := HG.out; omega
      rw [show wr.heap.size = G from HGR.out]
      generalize hwa : World.alloc wr _ = wa
      have hba : wa.heap[G]? = some (.cells #[.int .i64 i, .int .i64 X0, .int .i64 0, .int .i64 X2, .int .i64 (1 + X3), .int .i64 Z2, .int .i64 (1 + X4)] 39 (0, 0)) := by rw [← hwa, ← HGR.out]; exact heap_alloc_new _ _
      have hma : Mod nil wr wa := by rw [← hwa]; exact (Mod.refl _ _).alloc _
      have a1' := cell_kept a1 hma hgw (not_nil _)
      have hVA : Hid (IsVec (fun k => g ≤ k ∧ k < G) wa 39 7 (.slice p i q) i (trades (tradesTo b nn i))) := Lib.hid ((HVR.out.mono (fun k hk hs => ⟨hs, by have := HGR.out; omega⟩)).modNil hma)
      have hMA : Hid (Mod nil w wa) := Lib.hid (HMR.out.thenNil hma)
      have HBA := Lib.hid hba
      have s1 := cell_of hba 1
      have s2 := cell_of hba 2
      simp only [List.getElem?_toArray, List.getElem?_cons_zero, List.getElem?_cons_succ] at s1 s2
      have z2 := free_of hba 2
      have cs1 : ∀ v, (wa.setCell ⟨G, 2, none⟩ v).cell? ⟨G, 1, none⟩ = some (.int .i64 X0) := fun v => by rw [cell_of (heap_setCell_same hba v) 1]; rfl
      have csb : ∀ v, (wa.setCell ⟨G, 2, none⟩ v).cell? ⟨gb, o + 5 * i + 1, none⟩ = some (.int .u8 d1) := fun v => cell_kept a1' ((Mod.refl (· = G) wa).setCell ⟨G, 2, none⟩ v (fun _ => rfl)) (by have := hma.size; omega) (by have := HGR.out; omega)
      have hGs : G < wa.heap.size := heap_lt hba
      obtain ⟨N1, hN1⟩ : ∃ N, nn - 1 = N := ⟨_, rfl⟩
      obtain ⟨X1, hX1⟩ : ∃ X, d1 % N1 = X := ⟨_, rfl⟩
      obtain ⟨XS, hXS⟩ : ∃ X, (X0 + 1 + X1) % nn = X := ⟨_, rfl⟩
      have hx1 : X1 < N1 := by rw [← hX1]; exact Nat.mod_lt _ (by omega)
      have e1 : IntKind.i64.wrap ((X0 : Int) + 1) = ((X0 + 1 : Nat) : Int) := by rw [IntKind.wrap_i64]; omega
      have e2 : IntKind.i64.wrap ((nn : Int) - 1) = (N1 : Int) := by rw [IntKind.wrap_i64]; omega
      have e3 : (d1 : Int).tmod (N1 : Int) = (X1 : Int) := by rw [← hX1]; rfl
      obtain ⟨SS, hSS⟩ : ∃ X, X0 + 1 + X1 = X := ⟨_, rfl⟩
      rw [hSS] at hXS
      have e4 : IntKind.i64.wrap ((X0 : Int) + 1 + (X1 : Int)) = (SS : Int) := by rw [IntKind.wrap_i64]; omega
      have e5 : (SS : Int).tmod (nn : Int) = (XS : Int) := by rw [← hXS]; rfl
      have hxs : XS < nn := by rw [← hXS]; exact Nat.mod_lt _ (by omega)
      have hz1 : ¬ (N1 : Int) = 0 := by omega
      have hz1' : ¬ N1 = 0 := by omega
      have w1 : IntKind.i64.wrap (d1 : Int) = (d1 : Int) := by rw [IntKind.wrap_i64]; omega
      have HXT := Lib.hid (And.intro hN1 (And.intro hX1 (And.intro hSS hXS)))
      clear c0 c2 c3 c4 w0 w2 w3 w4 w5 m0 m2 m3 m4 m5 m6 s3 s4 a0 a2 a3 a4 hba hma hwa HVR HMR hN1 hX1 hSS hXS a1 hgw
      go_wp2_with fail
      go_region_held3 (fun w' => w'.cell? ⟨gb, o + 5 * i + 1, none⟩ = some (.int .u8 d1) ∧ w'.cell? ⟨G, 1, none⟩ = some (.int .i64 X0)) (first | exact ⟨a1', s1⟩ | exact ⟨csb _, cs1 _⟩) (fail)
      have hbb : (World.setCell wa ⟨G, 2, none⟩ (.int .i64 XS)).drew.drew.heap[G]? = some (.cells (#[.int .i64 i, .int .i64 X0, .int .i64 XS, .int .i64 X2, .int .i64 (1 + X3), .int .i64 Z2, .int .i64 (1 + X4)] : Array Value) 39 (0, 0)) := heap_setCell_same HBA.out (.int .i64 XS) (off := 2)
      have hmb : Mod (· = G) wa (World.setCell wa ⟨G, 2, none⟩ (.int .i64 XS)).drew.drew := ((Mod.refl (· = G) wa).setCell ⟨G, 2, none⟩ (.int .i64 XS) (fun _ => rfl)).drew.drew
      generalize (World.setCell wa ⟨G, 2, none⟩ (.int .i64 XS)).drew.drew = wb at *
      have hvb : IsVec (fun k => g ≤ k ∧ k < G) wb 39 7 (.slice p i q) i (trades (tradesTo b nn i)) := hVA.out.mod hmb (fun k _ hk h => by omega)
      have hmb' : Mod nil w wb := hMA.out.new hmb (fun k hk => by have := HG.out; omega)
      have q0 := cell_of hbb 0
      have q1 := cell_of hbb 1
      have q2 := cell_of hbb 2
      have q3 := cell_of hbb 3
      have q4 := cell_of hbb 4
      have q5 := cell_of hbb 5
      have q6 := cell_of hbb 6
      simp only [List.getElem?_toArray, List.getElem?_cons_zero, List.getElem?_cons_succ] at q0 q1 q2 q3 q4 q5 q6
      obtain ⟨v7, w7, hrun, hvec, hmod⟩ := trade_append (t := ⟨i, X0, XS, X2, 1 + X3, Z2, 1 + X4⟩) 36 hvb rfl (by omega)
      obtain ⟨p7, q7, rfl⟩ := hvec.form
      have HRUN := Lib.hid hrun
      have HV7 := Lib.hid (hvec.mono (fun k _ hk => (show (g ≤ k ∧ k < G) ∨ g ≤ k from hk.imp id (fun h => by have := HG.out; have := hmb'.size; omega))))
      have HM7 := Lib.hid (hmb'.new hmod (fun k hk => by have := HG.out; omega))
      clear cs1 csb e1 e2 e3 e4 e5 a1' s1 s2 z2 w1 hz1 hz1' hrun hvec hmod hbb hmb hvb hmb'
      go_wp2_with (first | (at_builtin; refine wpList_append_run rfl _ _ _ _ rfl rfl rfl HRUN.out ?_))
      have htr : tradeOf ((b.drop (5 * i)).take 5) nn i = ⟨i, X0, XS, X2, 1 + X3, Z2, 1 + X4⟩ := by
        have hg5 : ∀ j, j < 5 → ((b.drop (5 * i)).take 5).getD j 0 = b.getD (5 * i + j) 0 := fun j hj => by
          simp only [List.getD_eq_getElem?_getD]
          rw [List.getElem?_take_of_lt hj, List.getElem?_drop]
        obtain ⟨h0, h1, h2, h3, h4⟩ := HD.out
        obtain ⟨x0, x2, x3, y2, z2, x4⟩ := HXS.out
        obtain ⟨n1, x1, xs, xt⟩ := HXT.out
        unfold tradeOf
        rw [hg5 0 (by omega), hg5 1 (by omega), hg5 2 (by omega), hg5 3 (by omega), hg5 4 (by omega), h0, h1, h2, h3, h4, x0, n1, x1, xs, xt, x2, y2, z2, x3, x4]
        simp
      have hv7 : IsVec (fun k => g ≤ k) w7 39 7 (.slice p7 (i + 1) q7) (i + 1) (trades (tradesTo b nn (i + 1))) := by
        have e : trades (tradesTo b nn (i + 1)) = trades (tradesTo b nn i) ++ trades [⟨i, X0, XS, X2, 1 + X3, Z2, 1 + X4⟩] := by
          show trades (tradesTo b nn i ++ [tradeOf ((b.drop (5 * i)).take 5) nn i]) = _
          rw [htr]; simp [trades]
        rw [e]
        exact HV7.out.mono (fun k _ hk => hk.elim (fun h => h.1) id)
      exact ⟨⟨i + 1, p7, q7, by omega, by go_num, rfl, Lib.hid hv7, HM7⟩, by simp [intOf]; omega⟩
    · obtain rfl : i = K := by omega
      have HEND : Hid (Post (.returned (.slice p i q)) wr) := Lib.hid (HPOST.out _ _ ⟨_, rfl, by rw [HALL.out, tradesTo_length]; exact HVR.out.mono (fun k _ h => by have := HG.out; omega), HMR.out⟩)
      by_cases h200 : i < 200
      · have t1 : decide ((5 : Int) * (i : Int) + 4 < (L : Int)) = false := by simp; omega
        have t1' : ¬ (5 : Int) * (i : Int) + 4 < (L : Int) := by omega
        clear HVR HMR HPOST hkk
        go_wp2_with fail
        exact HEND.out
      · have t2' : ¬ i < 200 := h200
        obtain rfl : i = 200 := by omega
        clear HVR HMR HPOST hkk
        go_wp2_with fail
        all_goals exact HEND.out
end Go.Proofs.Ytlkhihdgaimboaa

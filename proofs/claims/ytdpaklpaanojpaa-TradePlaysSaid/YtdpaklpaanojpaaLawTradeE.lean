/- TradePlays: the walk. -/
import Derived.Test.YtdpaklpaanojpaaBothPlain
import Derived.Test.YtdpaklpaanojpaaLawTradeD
import Derived.Test.YtdpaklpaanojpaaRefTradeE
namespace Go.Proofs.Ytdpaklpaanojpaa
open Go.RowKit

/-- both desks side by side, from world z on: the program's in block b, the document's in block x -/
structure Dd (z w : World) (b x : Nat) (p c a : Int) (l l' : List Said) : Prop where
  ex : ∃ S T, IsDesk w b S p c a l ∧ IsRefT w x T p c a l' ∧ (∀ k, S k → z.heap.size ≤ k ∧ ¬ T k) ∧ (∀ k, T k → z.heap.size ≤ k)
  mod : Mod (fun k => k = b ∨ k = x) z w
  blt : b < z.heap.size ∧ x < z.heap.size ∧ b ≠ x
theorem Dd.modNil {z w w' : World} {b x : Nat} {p c a : Int} {l l' : List Said} (h : Dd z w b x p c a l l') (m : Mod nil w w') : Dd z w' b x p c a l l' := by
  obtain ⟨S, T, h1, h2, h3, h4⟩ := h.ex
  exact ⟨⟨S, T, h1.modNil m, h2.modNil m, h3, h4⟩, h.mod.thenNil m, h.blt⟩
theorem Dd.cell4 {z w : World} {b x : Nat} {p c a : Int} {l l' : List Said} (h : Dd z w b x p c a l l') : ∃ pl cl, w.cell? ⟨x, 4, none⟩ = some (.slice pl l'.length cl) := by
  obtain ⟨S, T, h1, h2, h3, h4⟩ := h.ex
  obtain ⟨S1, S2, v1, v2, ho, _, hv, _, _⟩ := h2.ex
  obtain ⟨pl, cl, rfl⟩ := hv.form
  exact ⟨pl, cl, cell_of ho 4⟩
theorem ddPut {z w : World} {b x : Nat} {p c a : Int} {l l2 : List Said} (h : Dd z w b x p c a l l2) (hl : l.length ≤ 400) (who : Int) (t : T7) (l' : List Said) (r : Int) (hr : putR p c a l who t = (l', r)) :
    Calls Try.prog 9 #[.pointer (some ⟨b, 0, none⟩), .int .i64 who, t.val] w fun e w' => e = .returned (.int .i64 r) ∧ Dd z w' b x p c a l' l2 := by
  obtain ⟨S, T, h1, h2, h3, h4⟩ := h.ex
  have := tradePut b S p c a l who t w h1 hl
  rw [hr] at this
  refine this.mono ?_
  rintro e w' ⟨rfl, ⟨S', h5, h6⟩, h7⟩
  have hz := h.mod.size
  obtain ⟨hb, hx, hbx⟩ := h.blt
  refine ⟨rfl, ⟨⟨S', T, h5, h2.mod h7 (fun k hk hT => ?_), fun k hk => ?_, h4⟩, h.mod.trans h7 (fun i hi hs => hs.elim .inl (fun hs => absurd (h3 i hs).1 (by omega))), h.blt⟩⟩
  · rintro (e | e)
    · rcases hT with e2 | e2
      · omega
      · have := h4 k e2; omega
    · rcases hT with e2 | e2
      · have := (h3 k e).1; omega
      · exact (h3 k e).2 e2
  · rcases h6 k hk with e | e
    · exact h3 k e
    · exact ⟨by omega, fun hT => by have := h2.top k hT; omega⟩
theorem ddRefPut {z w : World} {b x : Nat} {p c a : Int} {l l2 : List Said} (h : Dd z w b x p c a l2 l) (hl : l.length ≤ 400) (who : Int) (t : T7) (l' : List Said) (r : Int) (hr : putR p c a l who t = (l', r)) :
    Calls Try.prog 16 #[.pointer (some ⟨x, 0, none⟩), .int .i64 who, t.val] w fun e w' => e = .returned (.int .i64 r) ∧ Dd z w' b x p c a l2 l' := by
  obtain ⟨S, T, h1, h2, h3, h4⟩ := h.ex
  have := refPut x T p c a l who t w h2 hl
  rw [hr] at this
  refine this.mono ?_
  rintro e w' ⟨rfl, ⟨T', h5, h6⟩, h7⟩
  have hz := h.mod.size
  obtain ⟨hb, hx, hbx⟩ := h.blt
  refine ⟨rfl, ⟨⟨S, T', h1.mod h7 (fun k hk hS => ?_), h5, fun k hk => ⟨(h3 k hk).1, fun hT => ?_⟩, fun k hk => (h6 k hk).elim (h4 k) (fun e => by omega)⟩, h.mod.trans h7 (fun i hi hs => hs.elim .inr (fun hs => absurd (h4 i hs) (by omega))), h.blt⟩⟩
  · rintro (e | e)
    · rcases hS with e2 | e2
      · omega
      · have := (h3 k e2).1; omega
    · rcases hS with e2 | e2
      · have := h4 k e; omega
      · exact (h3 k e2).2 e
  · rcases h6 k hT with e | e
    · exact (h3 k hk).2 e
    · have := h1.top k hk; omega
theorem ddLen {z w : World} {b x : Nat} {p c a : Int} {l l2 : List Said} (h : Dd z w b x p c a l l2) (n : Nat) (hn : l.length = n) :
    Calls Try.prog 17 #[.pointer (some ⟨b, 0, none⟩)] w fun e w' => e = .returned (.int .i64 n) ∧ w = w' := by
  obtain ⟨S, T, h1, h2, h3, h4⟩ := h.ex
  subst hn
  exact tradeLen b S p c a l w h1
theorem ddMatched {z w : World} {b x : Nat} {p c a : Int} {l l2 : List Said} (h : Dd z w b x p c a l l2) (hl : l.length ≤ 400) (m : List T7) (hm : matchedOf l = m) :
    Calls Try.prog 10 #[.pointer (some ⟨b, 0, none⟩)] w fun e w' => ∃ v, e = .returned v ∧ IsCells (fun k => w.heap.size ≤ k) w' v m.length (trades m) ∧ Dd z w' b x p c a l l2 ∧ Mod nil w w' := by
  obtain ⟨S, T, h1, h2, h3, h4⟩ := h.ex
  subst hm
  refine (tradeMatched b S p c a l w h1 hl).mono ?_
  rintro e w' ⟨v, rfl, h3, h4⟩
  exact ⟨v, rfl, h3, h.modNil h4, h4⟩
theorem ddOpen {z w : World} {b x : Nat} {p c a : Int} {l l2 : List Said} (h : Dd z w b x p c a l l2) (hl : l.length ≤ 400) (m : List Int) (hm : openOf l = m) :
    Calls Try.prog 11 #[.pointer (some ⟨b, 0, none⟩)] w fun e w' => ∃ v, e = .returned v ∧ IsRow (fun k => w.heap.size ≤ k) w' v (m.map (Value.int .i64)) ∧ Dd z w' b x p c a l l2 ∧ Mod nil w w' := by
  obtain ⟨S, T, h1, h2, h3, h4⟩ := h.ex
  subst hm
  refine (tradeOpen b S p c a l w h1 hl).mono ?_
  rintro e w' ⟨v, rfl, h3, h4⟩
  exact ⟨v, rfl, h3, h.modNil h4, h4⟩
theorem ddRefMatched {z w : World} {b x : Nat} {p c a : Int} {l l2 : List Said} (h : Dd z w b x p c a l2 l) (hi : Inv l) (hl : l.length ≤ 400) :
    Calls Try.prog 19 #[.pointer (some ⟨x, 0, none⟩)] w fun e w' => ∃ v, e = .returned v ∧ IsCells (fun k => w.heap.size ≤ k) w' v (matchedOf l).length (trades (matchedOf l)) ∧ Dd z w' b x p c a l2 l ∧ Mod nil w w' := by
  obtain ⟨S, T, h1, h2, h3, h4⟩ := h.ex
  refine (refMatched x T p c a l w h2 hi hl).mono ?_
  rintro e w' ⟨v, rfl, h3, h4⟩
  exact ⟨v, rfl, h3, h.modNil h4, h4⟩
theorem ddRefOpen {z w : World} {b x : Nat} {p c a : Int} {l l2 : List Said} (h : Dd z w b x p c a l2 l) (hi : Inv l) (hl : l.length ≤ 400) :
    Calls Try.prog 21 #[.pointer (some ⟨x, 0, none⟩)] w fun e w' => ∃ v, e = .returned v ∧ IsRow (fun k => w.heap.size ≤ k) w' v ((openOf l).map (Value.int .i64)) ∧ Dd z w' b x p c a l2 l ∧ Mod nil w w' := by
  obtain ⟨S, T, h1, h2, h3, h4⟩ := h.ex
  refine (refOpen x T p c a l w h2 hi hl).mono ?_
  rintro e w' ⟨v, rfl, h3, h4⟩
  exact ⟨v, rfl, h3, h.modNil h4, h4⟩
theorem matchedOf_short (l : List Said) (hl : l.length ≤ 400) : (matchedOf l).length ≤ 400 := by
  rw [matchedOf_eq]
  have h1 := List.length_filterMap_le (pairOf l) (idsOf l)
  have h2 := idsOf_length l
  omega
theorem openOf_short (l : List Said) (hl : l.length ≤ 400) : (openOf l).length ≤ 400 := by
  rw [openOf_eq]
  have h1 := List.length_filter_le (fun i => (pairOf l i).isNone) (idsOf l)
  have h2 := idsOf_length l
  omega
set_option maxRecDepth 100000 in
set_option maxHeartbeats 8000000 in
theorem walkTradePlays (v0 v1 v2 v3 : Value) (W : World) (r0 : Rd W 3 v0) (r1 : Rd W 3 v1) (r2 : Rd W 3 v2) (r3 : Rd W 22 v3) :
    Calls Try.prog 4 #[v0, v1, v2, v3] W fun e w' => e = .returned (.bool true) ∧ Below W.heap.size W w' := by
  obtain ⟨pp, rfl, -⟩ := r0.int Try.underlying3
  obtain ⟨cc, rfl, -⟩ := r1.int Try.underlying3
  obtain ⟨aa, rfl, -⟩ := r2.int Try.underlying3
  obtain ⟨l, hl, hlm⟩ := r3.ops8
  clear r0 r1 r2 r3
  have HLL := Lib.hid hl
  obtain ⟨pv, cv, rfl⟩ := cells_slice hl
  obtain ⟨n, hn⟩ : ∃ n, l.length = n := ⟨_, rfl⟩
  rw [hn] at hlm ⊢
  have HN := Lib.hid hn
  unfold maxLen at hlm
  clear hl hn
  go_enter Try.func4, Try.ntmps4
  go_wp2_with fail
  refine (tradeFirst W).mono ?_
  rintro e w2 ⟨rfl, hm2⟩
  have HM2 := Lib.hid hm2
  clear hm2
  by_cases h150 : n ≤ 150
  · by_cases hok : newOk pp cc aa
    · go_wp2_with fail
      refine (tradeNew pp cc aa w2 hok).mono ?_
      rintro e w3 ⟨b, rfl, hd3, hb3, hm3⟩
      go_wp2_with fail
      refine (refNewDesk pp cc aa w3 hok).mono ?_
      rintro e w4 ⟨x, rfl, hd4, hx4, hm4⟩
      have HB3 : Hid (W.heap.size ≤ b) := Lib.hid (Nat.le_trans HM2.out.size hb3)
      have HX3 : Hid (W.heap.size ≤ x) := Lib.hid (Nat.le_trans HM2.out.size (Nat.le_trans hm3.size hx4))
      have HM4 := Lib.hid ((HM2.out.thenNil hm3).thenNil hm4)
      have HA : Hid (Dd w4 w4 b x pp cc aa [] []) := by
        have hbl := heap_lt hd3.ex.choose_spec.1
        have hd5 := hd3.modNil hm4
        have hxl : x < w4.heap.size := by obtain ⟨S1, S2, v1, v2, ho, _⟩ := hd4.ex; exact heap_lt ho
        exact Lib.hid ⟨⟨_, _, hd5, hd4, fun _ h => h.elim, fun _ h => h.elim⟩, Mod.refl _ _, by have := hm4.size; omega, hxl, by omega⟩
      clear hb3 hm3 hd3 hd4 hm4 hx4 hok
      go_wp2_with fail
      go_loopw [13] (fun v wr => ∃ (i : Nat) (D : List Said), i ≤ n ∧ v = .int .i64 i ∧ D.length ≤ i ∧ Inv D ∧ Dd w4 wr b x pp cc aa D D) (fun v _ => n - (intOf v).toNat)
      case atStart => exact ⟨0, [], by omega, rfl, by simp, Inv.nil, HA.out⟩
      case round =>
        obtain ⟨i, D, hi, rfl, hDi, hinv, hdd⟩ := hrel
        clear HA
        by_cases hlt : i < n
        · skip
          have hil : i < l.length := by have := HN.out; omega
          have hlc := ((HLL.out.modNil HM4.out).mod hdd.mod (fun k hk hk2 e => by have := HB3.out; have := HX3.out; omega))
          obtain ⟨g, off, ⟨c, hv⟩, hgW, hgl, q0, q1, q2, q3, q4, q5, q6, q7⟩ := said_cells hlc i hil
          simp only [Value.slice.injEq] at hv
          obtain ⟨rfl, -, rfl⟩ := hv
          obtain ⟨xx, hx⟩ : ∃ xx, l[i] = xx := ⟨_, rfl⟩
          rw [hx] at q0 q1 q2 q3 q4 q5 q6 q7
          clear hx hlc
          obtain ⟨xw, ⟨t1, t2, t3, t4, t5, t6, t7⟩⟩ := xx
          obtain ⟨rm, hrm⟩ : ∃ r, mayT ⟨t1, t2, t3, t4, t5, t6, t7⟩ pp cc aa = r := ⟨_, rfl⟩
          have HRM := Lib.hid hrm
          clear hrm
          obtain ⟨R, hR⟩ : ∃ R, putR pp cc aa D xw ⟨t1, t2, t3, t4, t5, t6, t7⟩ = R := ⟨_, rfl⟩
          have hbad := put_bad pp cc aa D xw ⟨t1, t2, t3, t4, t5, t6, t7⟩
          have hgood := put_ok pp cc aa D xw ⟨t1, t2, t3, t4, t5, t6, t7⟩
          rw [hR] at hbad hgood
          obtain ⟨D', r⟩ := R
          have HINV' : Hid (Inv D') := Lib.hid (by
            by_cases h0 : r = 0
            · have h := hgood h0; simp only at h; rw [h.1]; exact h.2 hinv
            · have h := hbad h0; simp only at h; rw [h]; exact hinv)
          have HLEN : Hid (D'.length ≤ i + 1) := Lib.hid (by
            by_cases h0 : r = 0
            · have h := hgood h0; simp only at h; rw [h.1]; simp; omega
            · have h := hbad h0; simp only at h; rw [h]; omega)
          have hlen' : D'.length ≤ 400 := by have := HLEN.out; omega
          have hml := matchedOf_short D' hlen'
          have hol := openOf_short D' hlen'
          obtain ⟨m, hm⟩ : ∃ m, D'.length = m := ⟨_, rfl⟩
          have HM := Lib.hid hm
          have HR := Lib.hid hR
          have hgz : g < w4.heap.size := by have := HM4.out.size; omega
          have hgb : g ≠ b := by have := HB3.out; omega
          have hgx : g ≠ x := by have := HX3.out; omega
          have HS : Hid (∀ w', Mod (fun k => k = b ∨ k = x) w4 w' → w'.cell? ⟨g, off + i * 8, none⟩ = some (.int .i64 xw) ∧ w'.cell? ⟨g, off + i * 8 + 1, none⟩ = some (.int .i64 t1) ∧ w'.cell? ⟨g, off + i * 8 + 2, none⟩ = some (.int .i64 t2) ∧ w'.cell? ⟨g, off + i * 8 + 3, none⟩ = some (.int .i64 t3) ∧ w'.cell? ⟨g, off + i * 8 + 4, none⟩ = some (.int .i64 t4) ∧ w'.cell? ⟨g, off + i * 8 + 5, none⟩ = some (.int .i64 t5) ∧ w'.cell? ⟨g, off + i * 8 + 6, none⟩ = some (.int .i64 t6) ∧ w'.cell? ⟨g, off + i * 8 + 7, none⟩ = some (.int .i64 t7)) := Lib.hid (fun w' hw' => by
            have hw := hdd.mod
            have hb : w'.heap[g]? = wr.heap[g]? := (hw'.block g hgz (by omega)).trans (hw.block g hgz (by omega)).symm
            exact ⟨(World.cell?_of_block (w := wr) hb).trans q0, (World.cell?_of_block (w := wr) hb).trans q1, (World.cell?_of_block (w := wr) hb).trans q2, (World.cell?_of_block (w := wr) hb).trans q3, (World.cell?_of_block (w := wr) hb).trans q4, (World.cell?_of_block (w := wr) hb).trans q5, (World.cell?_of_block (w := wr) hb).trans q6, (World.cell?_of_block (w := wr) hb).trans q7⟩)
          have HDD := Lib.hid hdd
          clear hbad hgood hR hinv hdd hgz hgb hgx q0 hm
          go_upto_region 12 with (fail)
          go_region_held3 (fun w' => w'.cell? ⟨g, off + i * 8 + 1, none⟩ = some (.int .i64 t1) ∧ w'.cell? ⟨g, off + i * 8 + 2, none⟩ = some (.int .i64 t2) ∧ w'.cell? ⟨g, off + i * 8 + 3, none⟩ = some (.int .i64 t3) ∧ w'.cell? ⟨g, off + i * 8 + 4, none⟩ = some (.int .i64 t4) ∧ w'.cell? ⟨g, off + i * 8 + 5, none⟩ = some (.int .i64 t5) ∧ w'.cell? ⟨g, off + i * 8 + 6, none⟩ = some (.int .i64 t6) ∧ w'.cell? ⟨g, off + i * 8 + 7, none⟩ = some (.int .i64 t7)) (first | exact ⟨q1, q2, q3, q4, q5, q6, q7⟩) (first
            | (go_at_call 15; refine (refMay ⟨t1, t2, t3, t4, t5, t6, t7⟩ pp cc aa w3).mono ?_; rw [HRM.out]; rintro e w4 ⟨rfl, hm4⟩; replace q1 := cell_kept (w := w3) q1 hm4 (World.block_lt_of_cell? _ _ q1) (not_nil _); replace q2 := cell_kept (w := w3) q2 hm4 (World.block_lt_of_cell? _ _ q2) (not_nil _); replace q3 := cell_kept (w := w3) q3 hm4 (World.block_lt_of_cell? _ _ q3) (not_nil _); replace q4 := cell_kept (w := w3) q4 hm4 (World.block_lt_of_cell? _ _ q4) (not_nil _); replace q5 := cell_kept (w := w3) q5 hm4 (World.block_lt_of_cell? _ _ q5) (not_nil _); replace q6 := cell_kept (w := w3) q6 hm4 (World.block_lt_of_cell? _ _ q6) (not_nil _); replace q7 := cell_kept (w := w3) q7 hm4 (World.block_lt_of_cell? _ _ q7) (not_nil _))
            | (go_at_call 14; refine (lawMay ⟨t1, t2, t3, t4, t5, t6, t7⟩ pp cc aa _).mono ?_; rw [HRM.out]; rintro e w3 ⟨rfl, hm3⟩; replace q1 := cell_kept (w := wr.drew) q1 hm3 (World.block_lt_of_cell? _ _ q1) (not_nil _); replace q2 := cell_kept (w := wr.drew) q2 hm3 (World.block_lt_of_cell? _ _ q2) (not_nil _); replace q3 := cell_kept (w := wr.drew) q3 hm3 (World.block_lt_of_cell? _ _ q3) (not_nil _); replace q4 := cell_kept (w := wr.drew) q4 hm3 (World.block_lt_of_cell? _ _ q4) (not_nil _); replace q5 := cell_kept (w := wr.drew) q5 hm3 (World.block_lt_of_cell? _ _ q5) (not_nil _); replace q6 := cell_kept (w := wr.drew) q6 hm3 (World.block_lt_of_cell? _ _ q6) (not_nil _); replace q7 := cell_kept (w := wr.drew) q7 hm3 (World.block_lt_of_cell? _ _ q7) (not_nil _)))
          have hm34 : Mod nil wr w4 := ((Mod.refl nil wr).drew.thenNil hm3).thenNil hm4
          have HM34 := Lib.hid hm34
          clear hm3 hm4 hm34
          have H4 := Lib.hid (HDD.out.modNil HM34.out)
          clear q1 q2 q3 q4 q5 q6 q7
          go_upto_region 15 with (fail)
          refine wp_region_held_drew (S := (fun w' => w'.cell? ⟨g, off + i * 8, none⟩ = some (.int .i64 xw) ∧ w'.cell? ⟨g, off + i * 8 + 1, none⟩ = some (.int .i64 t1) ∧ w'.cell? ⟨g, off + i * 8 + 2, none⟩ = some (.int .i64 t2) ∧ w'.cell? ⟨g, off + i * 8 + 3, none⟩ = some (.int .i64 t3) ∧ w'.cell? ⟨g, off + i * 8 + 4, none⟩ = some (.int .i64 t4) ∧ w'.cell? ⟨g, off + i * 8 + 5, none⟩ = some (.int .i64 t5) ∧ w'.cell? ⟨g, off + i * 8 + 6, none⟩ = some (.int .i64 t6) ∧ w'.cell? ⟨g, off + i * 8 + 7, none⟩ = some (.int .i64 t7))) (by kernel_rfl) (HS.out _ H4.out.mod.drew) (fun hHeld => ?_)
          refine wpAnyH_take (i := 0) (v := ?_) rfl (by kernel_rfl) (by kernel_rfl) (by kernel_rfl) (fun _ _ _ h => h) (Or.inl ⟨by kernel_rfl, ?_⟩) (by assumption) ?_
          rotate_left
          · intro w hSw; (try dsimp only at hSw); (first | (go_simp; done) | (go_simp; with_reducible rfl))
          (try simp only [Act.put]); (try simp only [List.setIfInBounds_toArray])
          (try simp only [List.set_cons_succ, List.set_cons_zero])
          refine wpAnyH_take (i := 1) (v := ?_) rfl (by kernel_rfl) (by kernel_rfl) (by kernel_rfl) (fun _ _ _ h => h) (Or.inl ⟨by kernel_rfl, ?_⟩) (by assumption) ?_
          rotate_left
          · intro w hSw; (try dsimp only at hSw); (first | (go_simp; done) | (go_simp; with_reducible rfl))
          (try simp only [Act.put]); (try simp only [List.setIfInBounds_toArray])
          (try simp only [List.set_cons_succ, List.set_cons_zero])
          refine wpAnyH_take (i := 2) (v := ?_) rfl (by kernel_rfl) (by kernel_rfl) (by kernel_rfl) (fun _ _ _ h => h) (Or.inl ⟨by kernel_rfl, ?_⟩) (by assumption) ?_
          rotate_left
          · intro w hSw; (try dsimp only at hSw); (first | (go_simp; done) | (go_simp; with_reducible rfl))
          (try simp only [Act.put]); (try simp only [List.setIfInBounds_toArray])
          (try simp only [List.set_cons_succ, List.set_cons_zero])
          refine wpAnyH_take (i := 3) (v := ?_) rfl (by kernel_rfl) (by kernel_rfl) (by kernel_rfl) (fun _ _ _ h => h) (Or.inl ⟨by kernel_rfl, ?_⟩) (by assumption) ?_
          rotate_left
          · intro w hSw; (try dsimp only at hSw); (first | (go_simp; done) | (go_simp; with_reducible rfl))
          (try simp only [Act.put]); (try simp only [List.setIfInBounds_toArray])
          (try simp only [List.set_cons_succ, List.set_cons_zero])
          refine wpAnyH_take (i := 4) (v := ?_) rfl (by kernel_rfl) (by kernel_rfl) (by kernel_rfl) (fun _ _ _ h => h) (Or.inl ⟨by kernel_rfl, ?_⟩) (by assumption) ?_
          rotate_left
          · intro w hSw; (try dsimp only at hSw); (first | (go_simp; done) | (go_simp; with_reducible rfl))
          (try simp only [Act.put]); (try simp only [List.setIfInBounds_toArray])
          (try simp only [List.set_cons_succ, List.set_cons_zero])
          refine wpAnyH_take (i := 5) (v := ?_) rfl (by kernel_rfl) (by kernel_rfl) (by kernel_rfl) (fun _ _ _ h => h) (Or.inl ⟨by kernel_rfl, ?_⟩) (by assumption) ?_
          rotate_left
          · intro w hSw; (try dsimp only at hSw); (first | (go_simp; done) | (go_simp; with_reducible rfl))
          (try simp only [Act.put]); (try simp only [List.setIfInBounds_toArray])
          (try simp only [List.set_cons_succ, List.set_cons_zero])
          refine wpAnyH_take (i := 6) (v := ?_) rfl (by kernel_rfl) (by kernel_rfl) (by kernel_rfl) (fun _ _ _ h => h) (Or.inl ⟨by kernel_rfl, ?_⟩) (by assumption) ?_
          rotate_left
          · intro w hSw; (try dsimp only at hSw); (first | (go_simp; done) | (go_simp; with_reducible rfl))
          (try simp only [Act.put]); (try simp only [List.setIfInBounds_toArray])
          (try simp only [List.set_cons_succ, List.set_cons_zero])
          refine wpAnyH_take (i := 7) (v := ?_) rfl (by kernel_rfl) (by kernel_rfl) (by kernel_rfl) (fun _ _ _ h => h) (Or.inl ⟨by kernel_rfl, ?_⟩) (by assumption) ?_
          rotate_left
          · intro w hSw; (try dsimp only at hSw); (first | (go_simp; done) | (go_simp; with_reducible rfl))
          (try simp only [Act.put]); (try simp only [List.setIfInBounds_toArray])
          (try simp only [List.set_cons_succ, List.set_cons_zero])
          refine wpAnyH_take (i := 8) (v := ?_) rfl (by kernel_rfl) (by kernel_rfl) (by kernel_rfl) (fun _ _ _ h => h) (Or.inl ⟨by kernel_rfl, ?_⟩) (by assumption) ?_
          rotate_left
          · intro w hSw; (try dsimp only at hSw); (first | (go_simp; done) | (go_simp; with_reducible rfl))
          (try simp only [Act.put]); (try simp only [List.setIfInBounds_toArray])
          (try simp only [List.set_cons_succ, List.set_cons_zero])
          refine wpAnyH_take (i := 9) (v := ?_) rfl (by kernel_rfl) (by kernel_rfl) (by kernel_rfl) (fun _ _ _ h => h) (Or.inl ⟨by kernel_rfl, ?_⟩) (by assumption) ?_
          rotate_left
          · intro w hSw; (try dsimp only at hSw); (first | (go_simp; done) | (go_simp; with_reducible rfl))
          (try simp only [Act.put]); (try simp only [List.setIfInBounds_toArray])
          (try simp only [List.set_cons_succ, List.set_cons_zero])
          refine wpAnyH_take (i := 10) (v := ?_) rfl (by kernel_rfl) (by kernel_rfl) (by kernel_rfl) (fun _ _ _ h => h) (Or.inl ⟨by kernel_rfl, ?_⟩) (by assumption) ?_
          rotate_left
          · intro w hSw; (try dsimp only at hSw); (first | (go_simp; done) | (go_simp; with_reducible rfl))
          (try simp only [Act.put]); (try simp only [List.setIfInBounds_toArray])
          (try simp only [List.set_cons_succ, List.set_cons_zero])
          refine wpAnyH_take (i := 12) (v := ?_) rfl (by kernel_rfl) (by kernel_rfl) (by kernel_rfl) (fun _ _ _ h => h) (Or.inl ⟨by kernel_rfl, ?_⟩) (by assumption) ?_
          rotate_left
          · intro w hSw; (try dsimp only at hSw); (first | (go_simp; done) | (go_simp; with_reducible rfl))
          (try simp only [Act.put]); (try simp only [List.setIfInBounds_toArray])
          (try simp only [List.set_cons_succ, List.set_cons_zero])
          refine wpAnyH_take (i := 13) (v := ?_) rfl (by kernel_rfl) (by kernel_rfl) (by kernel_rfl) (fun _ _ _ h => h) (Or.inl ⟨by kernel_rfl, ?_⟩) (by assumption) ?_
          rotate_left
          · intro w hSw; (try dsimp only at hSw); (first | (go_simp; done) | (go_simp; with_reducible rfl))
          (try simp only [Act.put]); (try simp only [List.setIfInBounds_toArray])
          (try simp only [List.set_cons_succ, List.set_cons_zero])
          refine wpAnyH_take (i := 14) (v := ?_) rfl (by kernel_rfl) (by kernel_rfl) (by kernel_rfl) (fun _ _ _ h => h) (Or.inl ⟨by kernel_rfl, ?_⟩) (by assumption) ?_
          rotate_left
          · intro w hSw; (try dsimp only at hSw); (first | (go_simp; done) | (go_simp; with_reducible rfl))
          (try simp only [Act.put]); (try simp only [List.setIfInBounds_toArray])
          (try simp only [List.set_cons_succ, List.set_cons_zero])
          refine wpAnyH_take (i := 15) (v := ?_) rfl (by kernel_rfl) (by kernel_rfl) (by kernel_rfl) (fun _ _ _ h => h) (Or.inl ⟨by kernel_rfl, ?_⟩) (by assumption) ?_
          rotate_left
          · intro w hSw; (try dsimp only at hSw); (first | (go_simp; done) | (go_simp; with_reducible rfl))
          (try simp only [Act.put]); (try simp only [List.setIfInBounds_toArray])
          (try simp only [List.set_cons_succ, List.set_cons_zero])
          refine wpAnyH_take (i := 16) (v := ?_) rfl (by kernel_rfl) (by kernel_rfl) (by kernel_rfl) (fun _ _ _ h => h) (Or.inl ⟨by kernel_rfl, ?_⟩) (by assumption) ?_
          rotate_left
          · intro w hSw; (try dsimp only at hSw); (first | (go_simp; done) | (go_simp; with_reducible rfl))
          (try simp only [Act.put]); (try simp only [List.setIfInBounds_toArray])
          (try simp only [List.set_cons_succ, List.set_cons_zero])
          refine wpAnyH_take (i := 17) (v := ?_) rfl (by kernel_rfl) (by kernel_rfl) (by kernel_rfl) (fun _ _ _ h => h) (Or.inl ⟨by kernel_rfl, ?_⟩) (by assumption) ?_
          rotate_left
          · intro w hSw; (try dsimp only at hSw); (first | (go_simp; done) | (go_simp; with_reducible rfl))
          (try simp only [Act.put]); (try simp only [List.setIfInBounds_toArray])
          (try simp only [List.set_cons_succ, List.set_cons_zero])
          refine wpAnyH_take (i := 18) (v := ?_) rfl (by kernel_rfl) (by kernel_rfl) (by kernel_rfl) (fun _ _ _ h => h) (Or.inl ⟨by kernel_rfl, ?_⟩) (by assumption) ?_
          rotate_left
          · intro w hSw; (try dsimp only at hSw); (first | (go_simp; done) | (go_simp; with_reducible rfl))
          (try simp only [Act.put]); (try simp only [List.setIfInBounds_toArray])
          (try simp only [List.set_cons_succ, List.set_cons_zero])
          refine wpAnyH_take (i := 19) (v := ?_) rfl (by kernel_rfl) (by kernel_rfl) (by kernel_rfl) (fun _ _ _ h => h) (Or.inl ⟨by kernel_rfl, ?_⟩) (by assumption) ?_
          rotate_left
          · intro w hSw; (try dsimp only at hSw); (first | (go_simp; done) | (go_simp; with_reducible rfl))
          (try simp only [Act.put]); (try simp only [List.setIfInBounds_toArray])
          (try simp only [List.set_cons_succ, List.set_cons_zero])
          refine wpAnyH_take (i := 20) (v := ?_) rfl (by kernel_rfl) (by kernel_rfl) (by kernel_rfl) (fun _ _ _ h => h) (Or.inl ⟨by kernel_rfl, ?_⟩) (by assumption) ?_
          rotate_left
          · intro w hSw; (try dsimp only at hSw); (first | (go_simp; done) | (go_simp; with_reducible rfl))
          (try simp only [Act.put]); (try simp only [List.setIfInBounds_toArray])
          (try simp only [List.set_cons_succ, List.set_cons_zero])
          refine wpAnyH_take (i := 21) (v := ?_) rfl (by kernel_rfl) (by kernel_rfl) (by kernel_rfl) (fun _ _ _ h => h) (Or.inl ⟨by kernel_rfl, ?_⟩) (by assumption) ?_
          rotate_left
          · intro w hSw; (try dsimp only at hSw); (first | (go_simp; done) | (go_simp; with_reducible rfl))
          (try simp only [Act.put]); (try simp only [List.setIfInBounds_toArray])
          (try simp only [List.set_cons_succ, List.set_cons_zero])
          refine wpAnyH_take (i := 22) (v := ?_) rfl (by kernel_rfl) (by kernel_rfl) (by kernel_rfl) (fun _ _ _ h => h) (Or.inl ⟨by kernel_rfl, ?_⟩) (by assumption) ?_
          rotate_left
          · intro w hSw; (try dsimp only at hSw); (first | (go_simp; done) | (go_simp; with_reducible rfl))
          (try simp only [Act.put]); (try simp only [List.setIfInBounds_toArray])
          (try simp only [List.set_cons_succ, List.set_cons_zero])
          refine wpAnyH_ready (rs := [11]) (by kernel_rfl) (by simp) ?_
          refine AllReadyH.cons (i := 11) rfl (fun K hK => ?_) AllReadyH.nil
          (try dsimp (config := { proj := false }) only [List.getElem_toArray, List.getElem_cons_succ, List.getElem_cons_zero])
          go_simp
          go_at_call 9
          refine (ddPut (H4.out.modNil (Mod.refl nil _).drew) (by omega) xw ⟨t1, t2, t3, t4, t5, t6, t7⟩ D' r HR.out).mono ?_
          rintro e w5 ⟨rfl, hdd⟩
          have H5 := Lib.hid hdd
          clear hdd
          go_wp2_with fail
          refine hK.out _ _ (HS.out _ H5.out.mod) (fun hHeld => ?_)
          clear hK K
          (try simp only [Act.put, List.setIfInBounds_toArray, List.set_cons_zero, List.set_cons_succ])
          (try simp only [List.set_cons_succ, List.set_cons_zero])
          refine wpAnyH_ready (rs := [23]) (by kernel_rfl) (by simp) ?_
          refine AllReadyH.cons (i := 23) rfl (fun K hK => ?_) AllReadyH.nil
          (try dsimp (config := { proj := false }) only [List.getElem_toArray, List.getElem_cons_succ, List.getElem_cons_zero])
          go_simp
          go_at_call 16
          refine (ddRefPut (H5.out) (by omega) xw ⟨t1, t2, t3, t4, t5, t6, t7⟩ D' r HR.out).mono ?_
          rintro e w6 ⟨rfl, hdd⟩
          have H6 := Lib.hid hdd
          clear hdd
          obtain ⟨pl, cl, c4⟩ := H6.out.cell4
          rw [HM.out] at c4
          go_wp2_with fail
          refine hK.out _ _ (HS.out _ H6.out.mod) (fun hHeld => ?_)
          clear hK K
          (try simp only [Act.put, List.setIfInBounds_toArray, List.set_cons_zero, List.set_cons_succ])
          (try simp only [List.set_cons_succ, List.set_cons_zero])
          refine wpAnyH_take (i := 24) (v := ?_) rfl (by kernel_rfl) (by kernel_rfl) (by kernel_rfl) (fun _ _ _ h => h) (Or.inl ⟨by kernel_rfl, ?_⟩) (by assumption) ?_
          rotate_left
          · intro w hSw; (try dsimp only at hSw); (first | (go_simp; done) | (go_simp; with_reducible rfl))
          (try simp only [Act.put]); (try simp only [List.setIfInBounds_toArray])
          (try simp only [List.set_cons_succ, List.set_cons_zero])
          refine wpAnyH_take (i := 25) (v := ?_) rfl (by kernel_rfl) (by kernel_rfl) (by kernel_rfl) (fun _ _ _ h => h) (Or.inl ⟨by kernel_rfl, ?_⟩) (by assumption) ?_
          rotate_left
          · intro w hSw; (try dsimp only at hSw); (first | (go_simp; done) | (go_simp; with_reducible rfl))
          (try simp only [Act.put]); (try simp only [List.setIfInBounds_toArray])
          (try simp only [List.set_cons_succ, List.set_cons_zero])
          refine wpAnyH_take (i := 26) (v := ?_) rfl (by kernel_rfl) (by kernel_rfl) (by kernel_rfl) (fun _ _ _ h => h) (Or.inl ⟨by kernel_rfl, ?_⟩) (by assumption) ?_
          rotate_left
          · intro w hSw; (try dsimp only at hSw); (first | (go_simp; done) | (go_simp; with_reducible rfl))
          (try simp only [Act.put]); (try simp only [List.setIfInBounds_toArray])
          (try simp only [List.set_cons_succ, List.set_cons_zero])
          refine wpAnyH_take (i := 28) (v := ?_) rfl (by kernel_rfl) (by kernel_rfl) (by kernel_rfl) (fun _ _ _ h => h) (Or.inl ⟨by kernel_rfl, ?_⟩) (by assumption) ?_
          rotate_left
          · intro w hSw; (try dsimp only at hSw); (first | (go_simp; done) | (go_simp; with_reducible rfl))
          (try simp only [Act.put]); (try simp only [List.setIfInBounds_toArray])
          (try simp only [List.set_cons_succ, List.set_cons_zero])
          refine wpAnyH_take (i := 29) (v := ?_) rfl (by kernel_rfl) (by kernel_rfl) (by kernel_rfl) (fun _ _ _ h => h) (Or.inl ⟨by kernel_rfl, ?_⟩) (by assumption) ?_
          rotate_left
          · intro w hSw; (try dsimp only at hSw); (first | (go_simp; done) | (go_simp; with_reducible rfl))
          (try simp only [Act.put]); (try simp only [List.setIfInBounds_toArray])
          (try simp only [List.set_cons_succ, List.set_cons_zero])
          refine wpAnyH_take (i := 30) (v := ?_) rfl (by kernel_rfl) (by kernel_rfl) (by kernel_rfl) (fun _ _ _ h => h) (Or.inl ⟨by kernel_rfl, ?_⟩) (by assumption) ?_
          rotate_left
          · intro w hSw; (try dsimp only at hSw); (first | (go_simp; done) | (go_simp; with_reducible rfl))
          (try simp only [Act.put]); (try simp only [List.setIfInBounds_toArray])
          (try simp only [List.set_cons_succ, List.set_cons_zero])
          refine wpAnyH_ready (rs := [27, 31]) (by kernel_rfl) (by simp) ?_
          refine AllReadyH.cons (i := 27) rfl (fun K hK => ?_) ?_
          · (try dsimp (config := { proj := false }) only [List.getElem_toArray, List.getElem_cons_succ, List.getElem_cons_zero])
            go_simp
            go_at_call 17
            refine (ddLen H6.out m HM.out).mono ?_
            rintro e w7 ⟨rfl, rfl⟩
            go_wp2_with fail
            refine hK.out _ _ (HS.out _ H6.out.mod) (fun hHeld => ?_)
            clear hK K
            (try simp only [Act.put, List.setIfInBounds_toArray, List.set_cons_zero, List.set_cons_succ])
            (try simp only [List.set_cons_succ, List.set_cons_zero])
            refine wpAnyH_ready (rs := [31]) (by kernel_rfl) (by simp) ?_
            refine AllReadyH.cons (i := 31) rfl (fun K hK => ?_) AllReadyH.nil
            (try dsimp (config := { proj := false }) only [List.getElem_toArray, List.getElem_cons_succ, List.getElem_cons_zero])
            go_simp
            refine hK.out _ _ (HS.out _ H6.out.mod) (fun hHeld => ?_)
            clear hK K
            (try simp only [Act.put, List.setIfInBounds_toArray, List.set_cons_zero, List.set_cons_succ])
            (try simp only [List.set_cons_succ, List.set_cons_zero])
            refine wpAnyH_take (i := 32) (v := ?_) rfl (by kernel_rfl) (by kernel_rfl) (by kernel_rfl) (fun _ _ _ h => h) (Or.inl ⟨by kernel_rfl, ?_⟩) (by assumption) ?_
            rotate_left
            · intro w hSw; (try dsimp only at hSw); (first | (go_simp; done) | (go_simp; with_reducible rfl))
            (try simp only [Act.put]); (try simp only [List.setIfInBounds_toArray])
            (try simp only [List.set_cons_succ, List.set_cons_zero])
            clear c4
            refine wpAnyH_take (i := 33) (v := ?_) rfl (by kernel_rfl) (by kernel_rfl) (by kernel_rfl) (fun _ _ _ h => h) (Or.inl ⟨by kernel_rfl, ?_⟩) (by assumption) ?_
            rotate_left
            · intro w hSw; (try dsimp only at hSw); (first | (go_simp; done) | (go_simp; with_reducible rfl))
            (try simp only [Act.put]); (try simp only [List.setIfInBounds_toArray])
            (try simp only [List.set_cons_succ, List.set_cons_zero])
            refine wpAnyH_take (i := 34) (v := ?_) rfl (by kernel_rfl) (by kernel_rfl) (by kernel_rfl) (fun _ _ _ h => h) (Or.inl ⟨by kernel_rfl, ?_⟩) (by assumption) ?_
            rotate_left
            · intro w hSw; (try dsimp only at hSw); (first | (go_simp; done) | (go_simp; with_reducible rfl))
            (try simp only [Act.put]); (try simp only [List.setIfInBounds_toArray])
            (try simp only [List.set_cons_succ, List.set_cons_zero])
            refine wpAnyH_take (i := 35) (v := ?_) rfl (by kernel_rfl) (by kernel_rfl) (by kernel_rfl) (fun _ _ _ h => h) (Or.inl ⟨by kernel_rfl, ?_⟩) (by assumption) ?_
            rotate_left
            · intro w hSw; (try dsimp only at hSw); (first | (go_simp; done) | (go_simp; with_reducible rfl))
            (try simp only [Act.put]); (try simp only [List.setIfInBounds_toArray])
            (try simp only [List.set_cons_succ, List.set_cons_zero])
            refine wpAnyH_take (i := 36) (v := ?_) rfl (by kernel_rfl) (by kernel_rfl) (by kernel_rfl) (fun _ _ _ h => h) (Or.inl ⟨by kernel_rfl, ?_⟩) (by assumption) ?_
            rotate_left
            · intro w hSw; (try dsimp only at hSw); (first | (go_simp; done) | (go_simp; with_reducible rfl))
            (try simp only [Act.put]); (try simp only [List.setIfInBounds_toArray])
            (try simp only [List.set_cons_succ, List.set_cons_zero])
            refine wpAnyH_take (i := 38) (v := ?_) rfl (by kernel_rfl) (by kernel_rfl) (by kernel_rfl) (fun _ _ _ h => h) (Or.inl ⟨by kernel_rfl, ?_⟩) (by assumption) ?_
            rotate_left
            · intro w hSw; (try dsimp only at hSw); (first | (go_simp; done) | (go_simp; with_reducible rfl))
            (try simp only [Act.put]); (try simp only [List.setIfInBounds_toArray])
            (try simp only [List.set_cons_succ, List.set_cons_zero])
            refine wpAnyH_ready (rs := [37]) (by kernel_rfl) (by simp) ?_
            refine AllReadyH.cons (i := 37) rfl (fun K hK => ?_) AllReadyH.nil
            (try dsimp (config := { proj := false }) only [List.getElem_toArray, List.getElem_cons_succ, List.getElem_cons_zero])
            go_simp
            go_at_call 10
            refine (ddMatched H6.out (by omega) _ rfl).mono ?_
            rintro e w8 ⟨v8, rfl, hc8, hdd, -⟩
            obtain ⟨p8, c8, rfl⟩ := cells_slice hc8
            have H8 := Lib.hid hdd
            have HC8 := Lib.hid hc8
            clear hdd hc8
            go_wp2_with fail
            refine hK.out _ _ (HS.out _ H8.out.mod) (fun hHeld => ?_)
            clear hK K
            (try simp only [Act.put, List.setIfInBounds_toArray, List.set_cons_zero, List.set_cons_succ])
            (try simp only [List.set_cons_succ, List.set_cons_zero])
            refine wpAnyH_ready (rs := [39]) (by kernel_rfl) (by simp) ?_
            refine AllReadyH.cons (i := 39) rfl (fun K hK => ?_) AllReadyH.nil
            (try dsimp (config := { proj := false }) only [List.getElem_toArray, List.getElem_cons_succ, List.getElem_cons_zero])
            go_simp
            go_at_call 19
            refine (ddRefMatched H8.out HINV'.out (by omega)).mono ?_
            rintro e w9 ⟨v9, rfl, hc9, hdd, hm9⟩
            obtain ⟨p9, c9, rfl⟩ := cells_slice hc9
            have H9 := Lib.hid hdd
            have HC9 := Lib.hid hc9
            have HC89 := Lib.hid (HC8.out.modNil hm9)
            clear hdd hc9 hm9
            go_wp2_with fail
            refine hK.out _ _ (HS.out _ H9.out.mod) (fun hHeld => ?_)
            clear hK K
            (try simp only [Act.put, List.setIfInBounds_toArray, List.set_cons_zero, List.set_cons_succ])
            (try simp only [List.set_cons_succ, List.set_cons_zero])
            refine wpAnyH_ready (rs := [40]) (by kernel_rfl) (by simp) ?_
            refine AllReadyH.cons (i := 40) rfl (fun K hK => ?_) AllReadyH.nil
            (try dsimp (config := { proj := false }) only [List.getElem_toArray, List.getElem_cons_succ, List.getElem_cons_zero])
            go_simp
            go_at_call 18
            refine (lawSame _ _ _ _ (matchedOf D') (matchedOf D') w9 HC89.out HC9.out (by omega) rfl).mono ?_
            rintro e w10 ⟨rfl, hm10⟩
            have H10 := Lib.hid (H9.out.modNil hm10)
            clear hm10
            go_wp2_with fail
            refine hK.out _ _ (HS.out _ H10.out.mod) (fun hHeld => ?_)
            clear hK K
            (try simp only [Act.put, List.setIfInBounds_toArray, List.set_cons_zero, List.set_cons_succ])
            (try simp only [List.set_cons_succ, List.set_cons_zero])
            refine wpAnyH_take (i := 41) (v := ?_) rfl (by kernel_rfl) (by kernel_rfl) (by kernel_rfl) (fun _ _ _ h => h) (Or.inl ⟨by kernel_rfl, ?_⟩) (by assumption) ?_
            rotate_left
            · intro w hSw; (try dsimp only at hSw); (first | (go_simp; done) | (go_simp; with_reducible rfl))
            (try simp only [Act.put]); (try simp only [List.setIfInBounds_toArray])
            (try simp only [List.set_cons_succ, List.set_cons_zero])
            refine wpAnyH_take (i := 42) (v := ?_) rfl (by kernel_rfl) (by kernel_rfl) (by kernel_rfl) (fun _ _ _ h => h) (Or.inl ⟨by kernel_rfl, ?_⟩) (by assumption) ?_
            rotate_left
            · intro w hSw; (try dsimp only at hSw); (first | (go_simp; done) | (go_simp; with_reducible rfl))
            (try simp only [Act.put]); (try simp only [List.setIfInBounds_toArray])
            (try simp only [List.set_cons_succ, List.set_cons_zero])
            refine wpAnyH_take (i := 43) (v := ?_) rfl (by kernel_rfl) (by kernel_rfl) (by kernel_rfl) (fun _ _ _ h => h) (Or.inl ⟨by kernel_rfl, ?_⟩) (by assumption) ?_
            rotate_left
            · intro w hSw; (try dsimp only at hSw); (first | (go_simp; done) | (go_simp; with_reducible rfl))
            (try simp only [Act.put]); (try simp only [List.setIfInBounds_toArray])
            (try simp only [List.set_cons_succ, List.set_cons_zero])
            refine wpAnyH_take (i := 44) (v := ?_) rfl (by kernel_rfl) (by kernel_rfl) (by kernel_rfl) (fun _ _ _ h => h) (Or.inl ⟨by kernel_rfl, ?_⟩) (by assumption) ?_
            rotate_left
            · intro w hSw; (try dsimp only at hSw); (first | (go_simp; done) | (go_simp; with_reducible rfl))
            (try simp only [Act.put]); (try simp only [List.setIfInBounds_toArray])
            (try simp only [List.set_cons_succ, List.set_cons_zero])
            refine wpAnyH_take (i := 46) (v := ?_) rfl (by kernel_rfl) (by kernel_rfl) (by kernel_rfl) (fun _ _ _ h => h) (Or.inl ⟨by kernel_rfl, ?_⟩) (by assumption) ?_
            rotate_left
            · intro w hSw; (try dsimp only at hSw); (first | (go_simp; done) | (go_simp; with_reducible rfl))
            (try simp only [Act.put]); (try simp only [List.setIfInBounds_toArray])
            (try simp only [List.set_cons_succ, List.set_cons_zero])
            refine wpAnyH_ready (rs := [45]) (by kernel_rfl) (by simp) ?_
            refine AllReadyH.cons (i := 45) rfl (fun K hK => ?_) AllReadyH.nil
            (try dsimp (config := { proj := false }) only [List.getElem_toArray, List.getElem_cons_succ, List.getElem_cons_zero])
            go_simp
            go_at_call 11
            refine (ddOpen H10.out (by omega) _ rfl).mono ?_
            rintro e w11 ⟨v11, rfl, hc11, hdd, -⟩
            obtain ⟨p11, c11, rfl⟩ : ∃ p c, v11 = .slice p (openOf D').length c := by have := row_slice hc11; simpa using this
            have H11 := Lib.hid hdd
            have HC11 := Lib.hid hc11
            clear hdd hc11
            go_wp2_with fail
            refine hK.out _ _ (HS.out _ H11.out.mod) (fun hHeld => ?_)
            clear hK K
            (try simp only [Act.put, List.setIfInBounds_toArray, List.set_cons_zero, List.set_cons_succ])
            (try simp only [List.set_cons_succ, List.set_cons_zero])
            refine wpAnyH_ready (rs := [47]) (by kernel_rfl) (by simp) ?_
            refine AllReadyH.cons (i := 47) rfl (fun K hK => ?_) AllReadyH.nil
            (try dsimp (config := { proj := false }) only [List.getElem_toArray, List.getElem_cons_succ, List.getElem_cons_zero])
            go_simp
            go_at_call 21
            refine (ddRefOpen H11.out HINV'.out (by omega)).mono ?_
            rintro e w12 ⟨v12, rfl, hc12, hdd, hm12⟩
            obtain ⟨p12, c12, rfl⟩ : ∃ p c, v12 = .slice p (openOf D').length c := by have := row_slice hc12; simpa using this
            have H12 := Lib.hid hdd
            have HC12 := Lib.hid hc12
            have HC112 := Lib.hid (HC11.out.modNil hm12)
            clear hdd hc12 hm12
            go_wp2_with fail
            refine hK.out _ _ (HS.out _ H12.out.mod) (fun hHeld => ?_)
            clear hK K
            (try simp only [Act.put, List.setIfInBounds_toArray, List.set_cons_zero, List.set_cons_succ])
            (try simp only [List.set_cons_succ, List.set_cons_zero])
            refine wpAnyH_ready (rs := [48]) (by kernel_rfl) (by simp) ?_
            refine AllReadyH.cons (i := 48) rfl (fun K hK => ?_) AllReadyH.nil
            (try dsimp (config := { proj := false }) only [List.getElem_toArray, List.getElem_cons_succ, List.getElem_cons_zero])
            go_simp
            go_at_call 20
            refine (refInts _ _ _ _ (openOf D') (openOf D') w12 HC112.out HC12.out (by omega)).mono ?_
            rw [decide_eq_true rfl]
            rintro e w13 ⟨rfl, n13, hw13⟩
            have H13 := Lib.hid (H12.out.modNil (show Mod nil _ w13 from hw13 ▸ (Mod.refl nil _).drewN n13))
            clear hw13
            go_wp2_with fail
            refine hK.out _ _ (HS.out _ H13.out.mod) (fun hHeld => ?_)
            clear hK K
            (try simp only [Act.put, List.setIfInBounds_toArray, List.set_cons_zero, List.set_cons_succ])
            (try simp only [List.set_cons_succ, List.set_cons_zero])
            refine wpAnyH_take (i := 49) (v := ?_) rfl (by kernel_rfl) (by kernel_rfl) (by kernel_rfl) (fun _ _ _ h => h) (Or.inl ⟨by kernel_rfl, ?_⟩) (by assumption) ?_
            rotate_left
            · intro w hSw; (try dsimp only at hSw); (first | (go_simp; done) | (go_simp; with_reducible rfl))
            (try simp only [Act.put]); (try simp only [List.setIfInBounds_toArray])
            (try simp only [List.set_cons_succ, List.set_cons_zero])
            refine wpAnyH_take (i := 50) (v := ?_) rfl (by kernel_rfl) (by kernel_rfl) (by kernel_rfl) (fun _ _ _ h => h) (Or.inl ⟨by kernel_rfl, ?_⟩) (by assumption) ?_
            rotate_left
            · intro w hSw; (try dsimp only at hSw); (first | (go_simp; done) | (go_simp; with_reducible rfl))
            (try simp only [Act.put]); (try simp only [List.setIfInBounds_toArray])
            (try simp only [List.set_cons_succ, List.set_cons_zero])
            refine wpAnyH_done (by kernel_rfl) ?_ _
            go_wp2_with fail
            exact ⟨⟨i + 1, D', by omega, by go_num, HLEN.out, HINV'.out, H13.out⟩, by simp [intOf]; omega⟩
          refine AllReadyH.cons (i := 31) rfl (fun K hK => ?_) AllReadyH.nil
          (try dsimp (config := { proj := false }) only [List.getElem_toArray, List.getElem_cons_succ, List.getElem_cons_zero])
          go_simp
          refine hK.out _ _ (HS.out _ H6.out.mod) (fun hHeld => ?_)
          clear hK K
          (try simp only [Act.put, List.setIfInBounds_toArray, List.set_cons_zero, List.set_cons_succ])
          (try simp only [List.set_cons_succ, List.set_cons_zero])
          refine wpAnyH_take (i := 32) (v := ?_) rfl (by kernel_rfl) (by kernel_rfl) (by kernel_rfl) (fun _ _ _ h => h) (Or.inl ⟨by kernel_rfl, ?_⟩) (by assumption) ?_
          rotate_left
          · intro w hSw; (try dsimp only at hSw); (first | (go_simp; done) | (go_simp; with_reducible rfl))
          (try simp only [Act.put]); (try simp only [List.setIfInBounds_toArray])
          (try simp only [List.set_cons_succ, List.set_cons_zero])
          refine wpAnyH_ready (rs := [27]) (by kernel_rfl) (by simp) ?_
          refine AllReadyH.cons (i := 27) rfl (fun K hK => ?_) AllReadyH.nil
          (try dsimp (config := { proj := false }) only [List.getElem_toArray, List.getElem_cons_succ, List.getElem_cons_zero])
          go_simp
          go_at_call 17
          refine (ddLen H6.out m HM.out).mono ?_
          rintro e w7 ⟨rfl, rfl⟩
          go_wp2_with fail
          refine hK.out _ _ (HS.out _ H6.out.mod) (fun hHeld => ?_)
          clear hK K
          (try simp only [Act.put, List.setIfInBounds_toArray, List.set_cons_zero, List.set_cons_succ])
          (try simp only [List.set_cons_succ, List.set_cons_zero])
          clear c4
          refine wpAnyH_take (i := 33) (v := ?_) rfl (by kernel_rfl) (by kernel_rfl) (by kernel_rfl) (fun _ _ _ h => h) (Or.inl ⟨by kernel_rfl, ?_⟩) (by assumption) ?_
          rotate_left
          · intro w hSw; (try dsimp only at hSw); (first | (go_simp; done) | (go_simp; with_reducible rfl))
          (try simp only [Act.put]); (try simp only [List.setIfInBounds_toArray])
          (try simp only [List.set_cons_succ, List.set_cons_zero])
          refine wpAnyH_take (i := 34) (v := ?_) rfl (by kernel_rfl) (by kernel_rfl) (by kernel_rfl) (fun _ _ _ h => h) (Or.inl ⟨by kernel_rfl, ?_⟩) (by assumption) ?_
          rotate_left
          · intro w hSw; (try dsimp only at hSw); (first | (go_simp; done) | (go_simp; with_reducible rfl))
          (try simp only [Act.put]); (try simp only [List.setIfInBounds_toArray])
          (try simp only [List.set_cons_succ, List.set_cons_zero])
          refine wpAnyH_take (i := 35) (v := ?_) rfl (by kernel_rfl) (by kernel_rfl) (by kernel_rfl) (fun _ _ _ h => h) (Or.inl ⟨by kernel_rfl, ?_⟩) (by assumption) ?_
          rotate_left
          · intro w hSw; (try dsimp only at hSw); (first | (go_simp; done) | (go_simp; with_reducible rfl))
          (try simp only [Act.put]); (try simp only [List.setIfInBounds_toArray])
          (try simp only [List.set_cons_succ, List.set_cons_zero])
          refine wpAnyH_take (i := 36) (v := ?_) rfl (by kernel_rfl) (by kernel_rfl) (by kernel_rfl) (fun _ _ _ h => h) (Or.inl ⟨by kernel_rfl, ?_⟩) (by assumption) ?_
          rotate_left
          · intro w hSw; (try dsimp only at hSw); (first | (go_simp; done) | (go_simp; with_reducible rfl))
          (try simp only [Act.put]); (try simp only [List.setIfInBounds_toArray])
          (try simp only [List.set_cons_succ, List.set_cons_zero])
          refine wpAnyH_take (i := 38) (v := ?_) rfl (by kernel_rfl) (by kernel_rfl) (by kernel_rfl) (fun _ _ _ h => h) (Or.inl ⟨by kernel_rfl, ?_⟩) (by assumption) ?_
          rotate_left
          · intro w hSw; (try dsimp only at hSw); (first | (go_simp; done) | (go_simp; with_reducible rfl))
          (try simp only [Act.put]); (try simp only [List.setIfInBounds_toArray])
          (try simp only [List.set_cons_succ, List.set_cons_zero])
          refine wpAnyH_ready (rs := [37]) (by kernel_rfl) (by simp) ?_
          refine AllReadyH.cons (i := 37) rfl (fun K hK => ?_) AllReadyH.nil
          (try dsimp (config := { proj := false }) only [List.getElem_toArray, List.getElem_cons_succ, List.getElem_cons_zero])
          go_simp
          go_at_call 10
          refine (ddMatched H6.out (by omega) _ rfl).mono ?_
          rintro e w8 ⟨v8, rfl, hc8, hdd, -⟩
          obtain ⟨p8, c8, rfl⟩ := cells_slice hc8
          have H8 := Lib.hid hdd
          have HC8 := Lib.hid hc8
          clear hdd hc8
          go_wp2_with fail
          refine hK.out _ _ (HS.out _ H8.out.mod) (fun hHeld => ?_)
          clear hK K
          (try simp only [Act.put, List.setIfInBounds_toArray, List.set_cons_zero, List.set_cons_succ])
          (try simp only [List.set_cons_succ, List.set_cons_zero])
          refine wpAnyH_ready (rs := [39]) (by kernel_rfl) (by simp) ?_
          refine AllReadyH.cons (i := 39) rfl (fun K hK => ?_) AllReadyH.nil
          (try dsimp (config := { proj := false }) only [List.getElem_toArray, List.getElem_cons_succ, List.getElem_cons_zero])
          go_simp
          go_at_call 19
          refine (ddRefMatched H8.out HINV'.out (by omega)).mono ?_
          rintro e w9 ⟨v9, rfl, hc9, hdd, hm9⟩
          obtain ⟨p9, c9, rfl⟩ := cells_slice hc9
          have H9 := Lib.hid hdd
          have HC9 := Lib.hid hc9
          have HC89 := Lib.hid (HC8.out.modNil hm9)
          clear hdd hc9 hm9
          go_wp2_with fail
          refine hK.out _ _ (HS.out _ H9.out.mod) (fun hHeld => ?_)
          clear hK K
          (try simp only [Act.put, List.setIfInBounds_toArray, List.set_cons_zero, List.set_cons_succ])
          (try simp only [List.set_cons_succ, List.set_cons_zero])
          refine wpAnyH_ready (rs := [40]) (by kernel_rfl) (by simp) ?_
          refine AllReadyH.cons (i := 40) rfl (fun K hK => ?_) AllReadyH.nil
          (try dsimp (config := { proj := false }) only [List.getElem_toArray, List.getElem_cons_succ, List.getElem_cons_zero])
          go_simp
          go_at_call 18
          refine (lawSame _ _ _ _ (matchedOf D') (matchedOf D') w9 HC89.out HC9.out (by omega) rfl).mono ?_
          rintro e w10 ⟨rfl, hm10⟩
          have H10 := Lib.hid (H9.out.modNil hm10)
          clear hm10
          go_wp2_with fail
          refine hK.out _ _ (HS.out _ H10.out.mod) (fun hHeld => ?_)
          clear hK K
          (try simp only [Act.put, List.setIfInBounds_toArray, List.set_cons_zero, List.set_cons_succ])
          (try simp only [List.set_cons_succ, List.set_cons_zero])
          refine wpAnyH_take (i := 41) (v := ?_) rfl (by kernel_rfl) (by kernel_rfl) (by kernel_rfl) (fun _ _ _ h => h) (Or.inl ⟨by kernel_rfl, ?_⟩) (by assumption) ?_
          rotate_left
          · intro w hSw; (try dsimp only at hSw); (first | (go_simp; done) | (go_simp; with_reducible rfl))
          (try simp only [Act.put]); (try simp only [List.setIfInBounds_toArray])
          (try simp only [List.set_cons_succ, List.set_cons_zero])
          refine wpAnyH_take (i := 42) (v := ?_) rfl (by kernel_rfl) (by kernel_rfl) (by kernel_rfl) (fun _ _ _ h => h) (Or.inl ⟨by kernel_rfl, ?_⟩) (by assumption) ?_
          rotate_left
          · intro w hSw; (try dsimp only at hSw); (first | (go_simp; done) | (go_simp; with_reducible rfl))
          (try simp only [Act.put]); (try simp only [List.setIfInBounds_toArray])
          (try simp only [List.set_cons_succ, List.set_cons_zero])
          refine wpAnyH_take (i := 43) (v := ?_) rfl (by kernel_rfl) (by kernel_rfl) (by kernel_rfl) (fun _ _ _ h => h) (Or.inl ⟨by kernel_rfl, ?_⟩) (by assumption) ?_
          rotate_left
          · intro w hSw; (try dsimp only at hSw); (first | (go_simp; done) | (go_simp; with_reducible rfl))
          (try simp only [Act.put]); (try simp only [List.setIfInBounds_toArray])
          (try simp only [List.set_cons_succ, List.set_cons_zero])
          refine wpAnyH_take (i := 44) (v := ?_) rfl (by kernel_rfl) (by kernel_rfl) (by kernel_rfl) (fun _ _ _ h => h) (Or.inl ⟨by kernel_rfl, ?_⟩) (by assumption) ?_
          rotate_left
          · intro w hSw; (try dsimp only at hSw); (first | (go_simp; done) | (go_simp; with_reducible rfl))
          (try simp only [Act.put]); (try simp only [List.setIfInBounds_toArray])
          (try simp only [List.set_cons_succ, List.set_cons_zero])
          refine wpAnyH_take (i := 46) (v := ?_) rfl (by kernel_rfl) (by kernel_rfl) (by kernel_rfl) (fun _ _ _ h => h) (Or.inl ⟨by kernel_rfl, ?_⟩) (by assumption) ?_
          rotate_left
          · intro w hSw; (try dsimp only at hSw); (first | (go_simp; done) | (go_simp; with_reducible rfl))
          (try simp only [Act.put]); (try simp only [List.setIfInBounds_toArray])
          (try simp only [List.set_cons_succ, List.set_cons_zero])
          refine wpAnyH_ready (rs := [45]) (by kernel_rfl) (by simp) ?_
          refine AllReadyH.cons (i := 45) rfl (fun K hK => ?_) AllReadyH.nil
          (try dsimp (config := { proj := false }) only [List.getElem_toArray, List.getElem_cons_succ, List.getElem_cons_zero])
          go_simp
          go_at_call 11
          refine (ddOpen H10.out (by omega) _ rfl).mono ?_
          rintro e w11 ⟨v11, rfl, hc11, hdd, -⟩
          obtain ⟨p11, c11, rfl⟩ : ∃ p c, v11 = .slice p (openOf D').length c := by have := row_slice hc11; simpa using this
          have H11 := Lib.hid hdd
          have HC11 := Lib.hid hc11
          clear hdd hc11
          go_wp2_with fail
          refine hK.out _ _ (HS.out _ H11.out.mod) (fun hHeld => ?_)
          clear hK K
          (try simp only [Act.put, List.setIfInBounds_toArray, List.set_cons_zero, List.set_cons_succ])
          (try simp only [List.set_cons_succ, List.set_cons_zero])
          refine wpAnyH_ready (rs := [47]) (by kernel_rfl) (by simp) ?_
          refine AllReadyH.cons (i := 47) rfl (fun K hK => ?_) AllReadyH.nil
          (try dsimp (config := { proj := false }) only [List.getElem_toArray, List.getElem_cons_succ, List.getElem_cons_zero])
          go_simp
          go_at_call 21
          refine (ddRefOpen H11.out HINV'.out (by omega)).mono ?_
          rintro e w12 ⟨v12, rfl, hc12, hdd, hm12⟩
          obtain ⟨p12, c12, rfl⟩ : ∃ p c, v12 = .slice p (openOf D').length c := by have := row_slice hc12; simpa using this
          have H12 := Lib.hid hdd
          have HC12 := Lib.hid hc12
          have HC112 := Lib.hid (HC11.out.modNil hm12)
          clear hdd hc12 hm12
          go_wp2_with fail
          refine hK.out _ _ (HS.out _ H12.out.mod) (fun hHeld => ?_)
          clear hK K
          (try simp only [Act.put, List.setIfInBounds_toArray, List.set_cons_zero, List.set_cons_succ])
          (try simp only [List.set_cons_succ, List.set_cons_zero])
          refine wpAnyH_ready (rs := [48]) (by kernel_rfl) (by simp) ?_
          refine AllReadyH.cons (i := 48) rfl (fun K hK => ?_) AllReadyH.nil
          (try dsimp (config := { proj := false }) only [List.getElem_toArray, List.getElem_cons_succ, List.getElem_cons_zero])
          go_simp
          go_at_call 20
          refine (refInts _ _ _ _ (openOf D') (openOf D') w12 HC112.out HC12.out (by omega)).mono ?_
          rw [decide_eq_true rfl]
          rintro e w13 ⟨rfl, n13, hw13⟩
          have H13 := Lib.hid (H12.out.modNil (show Mod nil _ w13 from hw13 ▸ (Mod.refl nil _).drewN n13))
          clear hw13
          go_wp2_with fail
          refine hK.out _ _ (HS.out _ H13.out.mod) (fun hHeld => ?_)
          clear hK K
          (try simp only [Act.put, List.setIfInBounds_toArray, List.set_cons_zero, List.set_cons_succ])
          (try simp only [List.set_cons_succ, List.set_cons_zero])
          refine wpAnyH_take (i := 49) (v := ?_) rfl (by kernel_rfl) (by kernel_rfl) (by kernel_rfl) (fun _ _ _ h => h) (Or.inl ⟨by kernel_rfl, ?_⟩) (by assumption) ?_
          rotate_left
          · intro w hSw; (try dsimp only at hSw); (first | (go_simp; done) | (go_simp; with_reducible rfl))
          (try simp only [Act.put]); (try simp only [List.setIfInBounds_toArray])
          (try simp only [List.set_cons_succ, List.set_cons_zero])
          refine wpAnyH_take (i := 50) (v := ?_) rfl (by kernel_rfl) (by kernel_rfl) (by kernel_rfl) (fun _ _ _ h => h) (Or.inl ⟨by kernel_rfl, ?_⟩) (by assumption) ?_
          rotate_left
          · intro w hSw; (try dsimp only at hSw); (first | (go_simp; done) | (go_simp; with_reducible rfl))
          (try simp only [Act.put]); (try simp only [List.setIfInBounds_toArray])
          (try simp only [List.set_cons_succ, List.set_cons_zero])
          refine wpAnyH_done (by kernel_rfl) ?_ _
          go_wp2_with fail
          exact ⟨⟨i + 1, D', by omega, by go_num, HLEN.out, HINV'.out, H13.out⟩, by simp [intOf]; omega⟩
        · obtain rfl : i = n := by omega
          go_wp2_with fail
          refine (tradeFirst _).mono ?_
          rintro e w5 ⟨rfl, hm5⟩
          go_wp2_with fail
          go_ret
          exact ⟨rfl, (HM4.out.new (hdd.mod.thenNil hm5) (fun k hk => hk.elim (fun h => h ▸ HB3.out) (fun h => h ▸ HX3.out))).below⟩
    · go_wp2_with fail
      refine (tradeNew_bad pp cc aa w2 hok).mono ?_
      rintro e w3 ⟨rfl, rfl⟩
      go_wp2_with fail
      refine (refNewDesk_bad pp cc aa w2 hok).mono ?_
      rintro e w3 ⟨rfl, rfl⟩
      clear hok
      go_wp2_with fail
      go_loopw [13] (fun v wr => ∃ i : Nat, i ≤ n ∧ v = .int .i64 i ∧ Mod nil w2 wr) (fun v _ => n - (intOf v).toNat)
      case atStart => exact ⟨0, by omega, rfl, Mod.refl _ _⟩
      case round =>
        obtain ⟨i, hi, rfl, hmod⟩ := hrel
        by_cases hlt : i < n
        · skip
          have hil : i < l.length := by have := HN.out; omega
          have hlc := HLL.out.modNil (HM2.out.thenNil hmod)
          obtain ⟨g, off, ⟨c, hv⟩, hgW, hgl, q0, q1, q2, q3, q4, q5, q6, q7⟩ := said_cells hlc i hil
          simp only [Value.slice.injEq] at hv
          obtain ⟨rfl, -, rfl⟩ := hv
          obtain ⟨xx, hx⟩ : ∃ xx, l[i] = xx := ⟨_, rfl⟩
          rw [hx] at q0 q1 q2 q3 q4 q5 q6 q7
          clear hx hlc
          obtain ⟨xw, ⟨t1, t2, t3, t4, t5, t6, t7⟩⟩ := xx
          obtain ⟨rm, hrm⟩ : ∃ r, mayT ⟨t1, t2, t3, t4, t5, t6, t7⟩ pp cc aa = r := ⟨_, rfl⟩
          have HRM := Lib.hid hrm
          clear hrm
          clear q0
          have HMOD := Lib.hid hmod
          clear hmod
          go_upto_region 12 with (fail)
          go_region_held3 (fun w' => w'.cell? ⟨g, off + i * 8 + 1, none⟩ = some (.int .i64 t1) ∧ w'.cell? ⟨g, off + i * 8 + 2, none⟩ = some (.int .i64 t2) ∧ w'.cell? ⟨g, off + i * 8 + 3, none⟩ = some (.int .i64 t3) ∧ w'.cell? ⟨g, off + i * 8 + 4, none⟩ = some (.int .i64 t4) ∧ w'.cell? ⟨g, off + i * 8 + 5, none⟩ = some (.int .i64 t5) ∧ w'.cell? ⟨g, off + i * 8 + 6, none⟩ = some (.int .i64 t6) ∧ w'.cell? ⟨g, off + i * 8 + 7, none⟩ = some (.int .i64 t7)) (first | exact ⟨q1, q2, q3, q4, q5, q6, q7⟩) (first
            | (go_at_call 15; refine (refMay ⟨t1, t2, t3, t4, t5, t6, t7⟩ pp cc aa w3).mono ?_; rw [HRM.out]; rintro e w4 ⟨rfl, hm4⟩; replace q1 := cell_kept (w := w3) q1 hm4 (World.block_lt_of_cell? _ _ q1) (not_nil _); replace q2 := cell_kept (w := w3) q2 hm4 (World.block_lt_of_cell? _ _ q2) (not_nil _); replace q3 := cell_kept (w := w3) q3 hm4 (World.block_lt_of_cell? _ _ q3) (not_nil _); replace q4 := cell_kept (w := w3) q4 hm4 (World.block_lt_of_cell? _ _ q4) (not_nil _); replace q5 := cell_kept (w := w3) q5 hm4 (World.block_lt_of_cell? _ _ q5) (not_nil _); replace q6 := cell_kept (w := w3) q6 hm4 (World.block_lt_of_cell? _ _ q6) (not_nil _); replace q7 := cell_kept (w := w3) q7 hm4 (World.block_lt_of_cell? _ _ q7) (not_nil _))
            | (go_at_call 14; refine (lawMay ⟨t1, t2, t3, t4, t5, t6, t7⟩ pp cc aa _).mono ?_; rw [HRM.out]; rintro e w3 ⟨rfl, hm3⟩; replace q1 := cell_kept (w := wr.drew) q1 hm3 (World.block_lt_of_cell? _ _ q1) (not_nil _); replace q2 := cell_kept (w := wr.drew) q2 hm3 (World.block_lt_of_cell? _ _ q2) (not_nil _); replace q3 := cell_kept (w := wr.drew) q3 hm3 (World.block_lt_of_cell? _ _ q3) (not_nil _); replace q4 := cell_kept (w := wr.drew) q4 hm3 (World.block_lt_of_cell? _ _ q4) (not_nil _); replace q5 := cell_kept (w := wr.drew) q5 hm3 (World.block_lt_of_cell? _ _ q5) (not_nil _); replace q6 := cell_kept (w := wr.drew) q6 hm3 (World.block_lt_of_cell? _ _ q6) (not_nil _); replace q7 := cell_kept (w := wr.drew) q7 hm3 (World.block_lt_of_cell? _ _ q7) (not_nil _)))
          have hm34 : Mod nil wr w4 := ((Mod.refl nil wr).drew.thenNil hm3).thenNil hm4
          have HM34 := Lib.hid hm34
          clear hm3 hm4 hm34
          go_wp2_with fail
          exact ⟨⟨i + 1, by omega, by go_num, HMOD.out.thenNil HM34.out⟩, by simp [intOf]; omega⟩
        · obtain rfl : i = n := by omega
          go_wp2_with fail
          refine (tradeFirst _).mono ?_
          rintro e w5 ⟨rfl, hm5⟩
          go_wp2_with fail
          go_ret
          exact ⟨rfl, ((HM2.out.thenNil hmod).thenNil hm5).below⟩
  · go_wp2_with fail
    refine (tradeFirst w2).mono ?_
    rintro e w3 ⟨rfl, hm3⟩
    go_wp2_with fail
    go_ret
    exact ⟨rfl, (HM2.out.thenNil hm3).below⟩
end Go.Proofs.Ytdpaklpaanojpaa

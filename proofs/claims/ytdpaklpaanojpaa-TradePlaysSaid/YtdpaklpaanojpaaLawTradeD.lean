/- TradeBoth: the walk. -/
import Derived.Test.YtdpaklpaanojpaaBothPlain
import Derived.Test.YtdpaklpaanojpaaLawTradeC
import Derived.Test.YtdpaklpaanojpaaHas
import Derived.Test.YtdpaklpaanojpaaEqT
import Derived.Deep.QuietTactic
import Derived.BigQuiet
namespace Go.Proofs.Ytdpaklpaanojpaa
open Go.RowKit

theorem Rc.said {w : World} {cs : List Value} (h : Rc w 33 cs) : ∃ x : Said, cs = x.vals := by
  obtain ⟨hl, hf⟩ := h.struct Try.underlying33
  rw [show Try.prog.cellsOf 33 = 8 from by kernel_rfl] at hl
  have hi1 : Try.prog.cellsOf 3 = 1 := by kernel_rfl
  have hi7 : Try.prog.cellsOf 31 = 7 := by kernel_rfl
  match cs, hl with
  | [c0, c1, c2, c3, c4, c5, c6, c7], _ =>
    have f0 : Rc w 3 [c0] := by simpa [hi1] using hf 0 _ rfl
    have f1 : Rc w 31 [c1, c2, c3, c4, c5, c6, c7] := by simpa [hi7] using hf 1 _ rfl
    obtain ⟨_, hg⟩ := f1.struct Try.underlying31
    have g0 : Rc w 3 [c1] := by simpa [hi1] using hg 0 _ rfl
    have g1 : Rc w 3 [c2] := by simpa [hi1] using hg 1 _ rfl
    have g2 : Rc w 3 [c3] := by simpa [hi1] using hg 2 _ rfl
    have g3 : Rc w 3 [c4] := by simpa [hi1] using hg 3 _ rfl
    have g4 : Rc w 3 [c5] := by simpa [hi1] using hg 4 _ rfl
    have g5 : Rc w 3 [c6] := by simpa [hi1] using hg 5 _ rfl
    have g6 : Rc w 3 [c7] := by simpa [hi1] using hg 6 _ rfl
    obtain ⟨m, hm, _⟩ := f0.int Try.underlying3
    obtain ⟨n0, h0, _⟩ := g0.int Try.underlying3
    obtain ⟨n1, h1, _⟩ := g1.int Try.underlying3
    obtain ⟨n2, h2, _⟩ := g2.int Try.underlying3
    obtain ⟨n3, h3, _⟩ := g3.int Try.underlying3
    obtain ⟨n4, h4, _⟩ := g4.int Try.underlying3
    obtain ⟨n5, h5, _⟩ := g5.int Try.underlying3
    obtain ⟨n6, h6, _⟩ := g6.int Try.underlying3
    simp at hm h0 h1 h2 h3 h4 h5 h6
    subst hm; subst h0; subst h1; subst h2; subst h3; subst h4; subst h5; subst h6
    exact ⟨⟨m, ⟨n0, n1, n2, n3, n4, n5, n6⟩⟩, rfl⟩
theorem Rd.ops8 {w : World} {v : Value} (h : Rd w 22 v) : ∃ l : List Said, IsCells (· < w.heap.size) w v l.length (saids l) ∧ l.length ≤ maxLen := by
  have hsz : Try.prog.cellsOf 33 = 8 := by kernel_rfl
  obtain ⟨p, len, cap, rfl, hl, hm, hall⟩ := h.slice Try.underlying22 (by omega)
  have : ∀ i, i < len → ∃ x : Said, ∃ b off, p = some ⟨b, off, none⟩ ∧ b < w.heap.size ∧ (∀ j, j < 8 → w.cell? ⟨b, off + i * 8 + j, none⟩ = (x.vals)[j]?) := by
    intro i hi
    obtain ⟨b, off, cs', hp, hb, hlen, hcell, hrc⟩ := hall i hi
    rw [hsz] at hlen hcell
    obtain ⟨x, rfl⟩ := hrc.said
    refine ⟨x, b, off, hp, hb, fun j hj => ?_⟩
    have hj2 : j < x.vals.length := by omega
    rw [hcell j hj2, List.getElem?_eq_getElem hj2]
  obtain ⟨l, hlen, hP⟩ := choose_list this
  refine ⟨l, ⟨p, cap, by rw [hlen], fun i hi => ?_⟩, by omega⟩
  rw [saids_length] at hi
  have hk : i / 8 < l.length := by omega
  obtain ⟨b, off, hp, hb, hc⟩ := hP (i / 8) hk
  refine ⟨b, off, hp, hb, hb, ?_⟩
  have h1 := hc (i % 8) (by omega)
  rw [← saids_get l (i / 8) hk (i % 8) (by omega), Nat.add_assoc, show i / 8 * 8 + i % 8 = i by omega] at h1
  rw [h1, List.getD_eq_getElem?_getD]
  cases hg : (saids l)[i]? with
  | none => rw [List.getElem?_eq_none_iff, saids_length] at hg; omega
  | some y => rfl
theorem matched_nil : matchedOf [] = [] := many_matched 0 0 (Nat.le_refl 0)
theorem info_op : (Try.prog.info? 33).map (fun i => (i.zero, i.size, i.bytes)) = some (some (.agg #[.int .i64 0, .int .i64 0, .int .i64 0, .int .i64 0, .int .i64 0, .int .i64 0, .int .i64 0, .int .i64 0]), 8, 64) := by kernel_rfl
/-- a desk and the list of what it took, side by side, from world z on -/
structure Dn (z w : World) (b : Nat) (p c a : Int) (l : List Said) (vd : Value) (ld : List Said) : Prop where
  ex : ∃ S T, IsDesk w b S p c a l ∧ (∀ k, S k → z.heap.size ≤ k) ∧ IsVec T w 33 8 vd ld.length (saids ld) ∧ (∀ k, T k → z.heap.size ≤ k ∧ k < w.heap.size ∧ ¬ S k)
  mod : Mod (· = b) z w
  blt : b < z.heap.size
theorem Dn.at {z w : World} {b : Nat} {p c a : Int} {l ld : List Said} {vd : Value} (h : Dn z w b p c a l vd ld) : At z w b p c a l := by
  obtain ⟨S, T, h1, h2, _⟩ := h.ex
  exact ⟨⟨S, h1, h2⟩, h.mod⟩
theorem Dn.modNil {z w w' : World} {b : Nat} {p c a : Int} {l ld : List Said} {vd : Value} (h : Dn z w b p c a l vd ld) (m : Mod nil w w') : Dn z w' b p c a l vd ld := by
  obtain ⟨S, T, h1, h2, h3, h4⟩ := h.ex
  exact ⟨⟨S, T, h1.modNil m, h2, h3.modNil m, fun k hk => ⟨(h4 k hk).1, Nat.lt_of_lt_of_le (h4 k hk).2.1 m.size, (h4 k hk).2.2⟩⟩, h.mod.thenNil m, h.blt⟩
theorem Dn.cells {z w : World} {b : Nat} {p c a : Int} {l ld : List Said} {vd : Value} (h : Dn z w b p c a l vd ld) : IsCells (fun _ => True) w vd ld.length (saids ld) := by
  obtain ⟨S, T, h1, h2, h3, h4⟩ := h.ex
  obtain ⟨q, d, hv, hall⟩ := h3.cells
  exact ⟨q, d, hv, fun i hi => by obtain ⟨g, o, e1, _, e3, e4⟩ := hall i hi; exact ⟨g, o, e1, trivial, e3, e4⟩⟩
theorem dnAppend {z w : World} {b : Nat} {p c a : Int} {l ld : List Said} {vd : Value} (h : Dn z w b p c a l vd ld) (hl : ld.length ≤ 400) (xw t1 t2 t3 t4 t5 t6 t7 : Int) :
    ∃ v' w', (Builtin.append_ #[22, 22] 22 #[vd, .slice (some ⟨w.heap.size, 0, none⟩) 1 1]).run Try.prog (w.alloc (.cells #[.int .i64 xw, .int .i64 t1, .int .i64 t2, .int .i64 t3, .int .i64 t4, .int .i64 t5, .int .i64 t6, .int .i64 t7] 33)) = .ok v' w' ∧ Dn z w' b p c a l v' (ld ++ [⟨xw, ⟨t1, t2, t3, t4, t5, t6, t7⟩⟩]) := by
  obtain ⟨S, T, h1, h2, h3, h4⟩ := h.ex
  obtain ⟨i0, hi, hz0, hz1, hz2⟩ := info_parts info_op
  have ha : Mod nil w (w.alloc (.cells #[.int .i64 xw, .int .i64 t1, .int .i64 t2, .int .i64 t3, .int .i64 t4, .int .i64 t5, .int .i64 t6, .int .i64 t7] 33)) := (Mod.refl nil w).alloc _
  obtain ⟨v7, w7, hrun7, hvec7, hm7⟩ := vec_append (P := Try.prog) 22 22 33 i0 (.agg #[.int .i64 0, .int .i64 0, .int .i64 0, .int .i64 0, .int .i64 0, .int .i64 0, .int .i64 0, .int .i64 0]) 8 64 Try.underlying22 hi hz0 hz1 hz2 rfl (by omega) (h3.modNil ha) (cells_at w 33 [.int .i64 xw, .int .i64 t1, .int .i64 t2, .int .i64 t3, .int .i64 t4, .int .i64 t5, .int .i64 t6, .int .i64 t7] 1 1 _ rfl) rfl (fun u hu => said_one ⟨xw, ⟨t1, t2, t3, t4, t5, t6, t7⟩⟩ u hu) (by unfold maxLen; omega) (by omega)
  refine ⟨v7, w7, hrun7, ⟨S, fun k => (T k ∨ w.heap.size ≤ k) ∧ k < w7.heap.size, (h1.modNil ha).mod hm7 (fun k _ hk hT => ?_), h2, ?_, fun k hk => ?_⟩, (h.mod.thenNil ha).trans hm7 (fun k hk hT => absurd (h4 k hT).1 (by omega)), h.blt⟩
  · rcases hk with rfl | hk
    · have := (h4 _ hT).1; have := h.blt; omega
    · exact (h4 k hT).2.2 hk
  · rw [saids_append, List.length_append]
    exact hvec7.trim.mono (fun k _ hk => ⟨hk.1.elim .inl (fun e => .inr (Nat.le_trans ha.size e)), hk.2⟩)
  · have hz := h.mod.size
    have hs := ha.size
    refine ⟨hk.1.elim (fun e => (h4 k e).1) (fun e => by omega), hk.2, fun hS => ?_⟩
    rcases hk.1 with e | e
    · exact (h4 k e).2.2 hS
    · have := h1.top k hS; omega
theorem dn_cell {z w w' : World} {b : Nat} {p c a : Int} {l ld l' ld' : List Said} {vd vd' : Value} (h : Dn z w b p c a l vd ld) (h' : Dn z w' b p c a l' vd' ld') {g o : Nat} (hg : g < z.heap.size) (hb : g ≠ b) : w'.cell? ⟨g, o, none⟩ = w.cell? ⟨g, o, none⟩ := by
  have h1 := h.mod.block g hg hb
  have h2 := h'.mod.block g hg hb
  have : w'.heap[g]? = w.heap[g]? := h2.trans h1.symm
  simp [World.cell?, this]
theorem dnPut {z w : World} {b : Nat} {p c a : Int} {l ld : List Said} {vd : Value} (h : Dn z w b p c a l vd ld) (hl : l.length ≤ 400) (who : Int) (t : T7) (l' : List Said) (r : Int) (hr : putR p c a l who t = (l', r)) :
    Calls Try.prog 9 #[.pointer (some ⟨b, 0, none⟩), .int .i64 who, t.val] w fun e w' => e = .returned (.int .i64 r) ∧ Dn z w' b p c a l' vd ld := by
  obtain ⟨S, T, h1, h2, h3, h4⟩ := h.ex
  have := tradePut b S p c a l who t w h1 hl
  rw [hr] at this
  refine this.mono ?_
  rintro e w' ⟨rfl, ⟨S', h5, h6⟩, h7⟩
  have hz := h.mod.size
  have hsz := h7.size
  have hb := h.blt
  refine ⟨rfl, ⟨⟨S', T, h5, fun k hk => (h6 k hk).elim (h2 k) (fun h8 => Nat.le_trans hz h8), h3.mod h7 (fun k hk hT => ?_), fun k hk => ⟨(h4 k hk).1, by have := (h4 k hk).2.1; omega, fun hS => ?_⟩⟩, h.mod.trans h7 (fun i hi hs => hs.elim id (fun hs => absurd (h2 i hs) (by omega))), hb⟩⟩
  · rintro (e | e)
    · have := (h4 k hT).1; omega
    · exact (h4 k hT).2.2 e
  · rcases h6 k hS with e | e
    · exact (h4 k hk).2.2 e
    · have := (h4 k hk).2.1; omega
set_option maxRecDepth 100000 in
set_option maxHeartbeats 8000000 in
theorem walkTradeBoth (v0 v1 v2 v3 : Value) (W : World) (r0 : Rd W 3 v0) (r1 : Rd W 3 v1) (r2 : Rd W 3 v2) (r3 : Rd W 22 v3) :
    Calls Try.prog 3 #[v0, v1, v2, v3] W fun e w' => e = .returned (.bool true) ∧ Below W.heap.size W w' := by
  obtain ⟨pp, rfl, -⟩ := r0.int Try.underlying3
  obtain ⟨cc, rfl, -⟩ := r1.int Try.underlying3
  obtain ⟨aa, rfl, -⟩ := r2.int Try.underlying3
  obtain ⟨l, hl, hlm⟩ := r3.ops8
  clear r0 r1 r2 r3
  obtain ⟨i0, hi, hz0, hz1, hz2⟩ := info_parts info_op
  have HI := Lib.hid (And.intro hi (And.intro hz0 (And.intro hz1 hz2)))
  clear hi hz0 hz1 hz2
  have HLL := Lib.hid hl
  obtain ⟨pv, cv, rfl⟩ := cells_slice hl
  obtain ⟨n, hn⟩ : ∃ n, l.length = n := ⟨_, rfl⟩
  rw [hn] at hlm ⊢
  have HN := Lib.hid hn
  unfold maxLen at hlm
  clear hl hn
  go_enter Try.func3, Try.ntmps3
  go_wp2_with fail
  refine (tradeFirst W).mono ?_
  rintro e w2 ⟨rfl, hm2⟩
  have HM2 := Lib.hid hm2
  clear hm2
  by_cases hok : newOk pp cc aa
  · go_wp2_with fail
    refine (tradeNew pp cc aa w2 hok).mono ?_
    rintro e w3 ⟨b, rfl, hd3, hb3, hm3⟩
    have HB3 : Hid (W.heap.size ≤ b) := Lib.hid (Nat.le_trans HM2.out.size hb3)
    have HM3 := Lib.hid (HM2.out.thenNil hm3)
    have HD3 := Lib.hid hd3
    clear hb3 hm3 hd3 hok
    by_cases h150 : n ≤ 150
    · have HA : Hid (Dn w3 w3 b pp cc aa [] (.slice none 0 0) []) := Lib.hid ⟨⟨_, fun _ => False, HD3.out, fun _ h => h.elim, IsVec.nil _ _ _ _, fun _ h => h.elim⟩, Mod.refl _ _, heap_lt HD3.out.ex.choose_spec.1⟩
      clear HD3
      go_wp2_with fail
      go_loopw [11, 12, 13] (fun u11 u12 v wr => ∃ (i : Nat) (D : List Said) (pw : Option Addr) (cw : Nat), i ≤ n ∧ v = .int .i64 i ∧ D.length ≤ i ∧ u12 = .slice pw (matchedOf D).length cw ∧ Inv D ∧ Dn w3 wr b pp cc aa D u11 D) (fun _ _ v _ => n - (intOf v).toNat)
      case atStart => exact ⟨0, [], none, 0, by omega, rfl, by simp, by rw [matched_nil]; rfl, Inv.nil, HA.out⟩
      case round =>
        obtain ⟨i, D, pw, cw, hi, rfl, hDi, rfl, hinv, hdn⟩ := hrel
        clear HA
        by_cases hlt : i < n
        · have hil : i < l.length := by have := HN.out; omega
          have hlc := ((HLL.out.modNil HM3.out).mod hdn.mod (fun k hk hk2 e => by have := HB3.out; omega))
          obtain ⟨g, off, ⟨c, hv⟩, hgW, hgl, q0, q1, q2, q3, q4, q5, q6, q7⟩ := said_cells hlc i hil
          simp only [Value.slice.injEq] at hv
          obtain ⟨rfl, -, rfl⟩ := hv
          obtain ⟨x, hx⟩ : ∃ x, l[i] = x := ⟨_, rfl⟩
          rw [hx] at q0 q1 q2 q3 q4 q5 q6 q7
          clear hx hlc
          obtain ⟨xw, ⟨t1, t2, t3, t4, t5, t6, t7⟩⟩ := x
          obtain ⟨R, hR⟩ : ∃ R, putR pp cc aa D xw ⟨t1, t2, t3, t4, t5, t6, t7⟩ = R := ⟨_, rfl⟩
          have hbad := put_bad pp cc aa D xw ⟨t1, t2, t3, t4, t5, t6, t7⟩
          have hgood := put_ok pp cc aa D xw ⟨t1, t2, t3, t4, t5, t6, t7⟩
          rw [hR] at hbad hgood
          obtain ⟨D', r⟩ := R
          have HBAD := Lib.hid hbad
          have HGOOD := Lib.hid hgood
          have HR := Lib.hid hR
          have HINV := Lib.hid hinv
          have HDN := Lib.hid hdn
          have HGB : Hid (g < w3.heap.size ∧ g ≠ b) := Lib.hid ⟨by have := HM3.out.size; omega, by have := HB3.out; omega⟩
          clear hbad hgood hR hinv hdn
          go_upto_region 11 with (fail)
          go_region_held3 (fun w' => w'.cell? ⟨g, off + i * 8, none⟩ = some (.int .i64 xw) ∧ w'.cell? ⟨g, off + i * 8 + 1, none⟩ = some (.int .i64 t1) ∧ w'.cell? ⟨g, off + i * 8 + 2, none⟩ = some (.int .i64 t2) ∧ w'.cell? ⟨g, off + i * 8 + 3, none⟩ = some (.int .i64 t3) ∧ w'.cell? ⟨g, off + i * 8 + 4, none⟩ = some (.int .i64 t4) ∧ w'.cell? ⟨g, off + i * 8 + 5, none⟩ = some (.int .i64 t5) ∧ w'.cell? ⟨g, off + i * 8 + 6, none⟩ = some (.int .i64 t6) ∧ w'.cell? ⟨g, off + i * 8 + 7, none⟩ = some (.int .i64 t7)) (first | exact ⟨q0, q1, q2, q3, q4, q5, q6, q7⟩) (first
            | (go_at_call 9; refine (dnPut (HDN.out.modNil (Mod.refl nil wr).drew) (by omega) xw ⟨t1, t2, t3, t4, t5, t6, t7⟩ D' r HR.out).mono ?_; rintro e w5 ⟨rfl, hdn5⟩; replace q0 : w5.cell? _ = _ := (dn_cell HDN.out hdn5 HGB.out.1 HGB.out.2).trans q0; replace q1 : w5.cell? _ = _ := (dn_cell HDN.out hdn5 HGB.out.1 HGB.out.2).trans q1; replace q2 : w5.cell? _ = _ := (dn_cell HDN.out hdn5 HGB.out.1 HGB.out.2).trans q2; replace q3 : w5.cell? _ = _ := (dn_cell HDN.out hdn5 HGB.out.1 HGB.out.2).trans q3; replace q4 : w5.cell? _ = _ := (dn_cell HDN.out hdn5 HGB.out.1 HGB.out.2).trans q4; replace q5 : w5.cell? _ = _ := (dn_cell HDN.out hdn5 HGB.out.1 HGB.out.2).trans q5; replace q6 : w5.cell? _ = _ := (dn_cell HDN.out hdn5 HGB.out.1 HGB.out.2).trans q6; replace q7 : w5.cell? _ = _ := (dn_cell HDN.out hdn5 HGB.out.1 HGB.out.2).trans q7))
          have HD5 := Lib.hid hdn5
          have HQ := Lib.hid (And.intro q0 (And.intro q1 (And.intro q2 (And.intro q3 (And.intro q4 (And.intro q5 (And.intro q6 q7)))))))
          clear hdn5 q0 q1 q2 q3 q4 q5 q6 q7
          go_upto_if 61 with (fail)
          go_cut [11, 61] from 196 (fun s11 _ wx => ∃ D2, Dn w3 wx b pp cc aa D2 s11 D2 ∧ D2.length ≤ i + 1 ∧ Inv D2 ∧ (matchedOf D).length ≤ (matchedOf D2).length)
          case first =>
            by_cases hr0 : r = 0
            · subst hr0
              obtain ⟨hD', hinv'⟩ := HGOOD.out rfl
              (try simp only at hD')
              subst hD'
              obtain ⟨v7, w7, hrun7, hdn7⟩ := dnAppend HD5.out (by omega) xw t1 t2 t3 t4 t5 t6 t7
              obtain ⟨q0, q1, q2, q3, q4, q5, q6, q7⟩ := HQ.out
              have HRUN7 := Lib.hid hrun7
              have HDN7 := Lib.hid hdn7
              have HINV2 := Lib.hid (hinv' HINV.out)
              clear hrun7 hdn7 hinv'
              go_wp2_with (first | (at_builtin; refine wpList_append_run rfl _ _ _ _ rfl rfl rfl HRUN7.out ?_))
              go_meet
              exact ⟨_, HDN7.out, by simp; omega, HINV2.out, matched_grows _ _⟩
            · have hr1 : (r == 0) = false := by simpa using hr0
              have hD' := HBAD.out hr0
              (try simp only at hD')
              subst hD'
              go_wp2_with fail
              go_meet
              exact ⟨_, HD5.out, by omega, HINV.out, Nat.le_refl _⟩
          case rest =>
          obtain ⟨D2, hdn2, hlen2, hinv2, hgrow⟩ := hcut
          clear HD5 HQ HBAD HGOOD HR HINV HDN
          have HINV := Lib.hid hinv2
          have HGROW := Lib.hid hgrow
          have hcat := hdn2.at
          have HCAT := Lib.hid hcat
          have hcells2 := hdn2.cells
          obtain ⟨pd, cd, hpd⟩ := cells_slice hcells2
          rw [hpd] at hdn2 hcells2 ⊢
          have HDN := Lib.hid hdn2
          have HCD := Lib.hid hcells2
          clear hpd hcells2 hcat hinv2 hgrow hdn2
          obtain ⟨M, hM⟩ : ∃ M, matchedOf D2 = M := ⟨_, rfl⟩
          obtain ⟨O, hO⟩ : ∃ O, openOf D2 = O := ⟨_, rfl⟩
          go_wp2_with fail
          refine (atMatched HCAT.out (by omega) M hM).mono ?_
          rintro e w8 ⟨v8, rfl, hc8, A8, hm8⟩
          have HC8 := Lib.hid hc8
          have HA8 := Lib.hid A8
          have HM8 := Lib.hid hm8
          clear hc8 A8 hm8
          go_wp2_with fail
          refine (atOpen HA8.out (by omega) O hO).mono ?_
          rintro e w9 ⟨v9, rfl, hc9, A9, hm9⟩
          have HO := Lib.hid hc9
          have HMM := Lib.hid (HC8.out.modNil hm9)
          have HCC := Lib.hid (HCD.out.modNil (HM8.out.thenNil hm9))
          have HDD := Lib.hid (HDN.out.modNil (HM8.out.thenNil hm9))
          obtain ⟨p8, c8, rfl⟩ := cells_slice HC8.out
          obtain ⟨p9, c9, rfl⟩ := row_slice hc9
          simp only [List.length_map] at *
          clear HCAT HA8 HM8 HC8 HCD HDN hc9 A9 hm9
          have HMQ := Lib.hid hM
          have HOQ := Lib.hid hO
          clear hM hO
          obtain ⟨m, hm⟩ : ∃ m, M.length = m := ⟨_, rfl⟩
          obtain ⟨dl, hdl⟩ : ∃ d, D2.length = d := ⟨_, rfl⟩
          have HM9 := Lib.hid hm
          have HDL := Lib.hid hdl
          rw [hm] at HMM ⊢
          rw [hdl] at HCC HDD ⊢
          have hmb : m ≤ 400 := by
            have h1 := idsOf_length D2
            have h2 := List.length_filterMap_le (pairOf D2) (idsOf D2)
            rw [← matchedOf_eq, HMQ.out, HM9.out] at h2
            have := HDL.out
            omega
          clear hm hdl
          go_wp2_with fail
          go_loopw [16] (fun v wr => ∃ k : Nat, k ≤ m ∧ v = .int .i64 k ∧ Mod nil w9 wr) (fun v _ => m - (intOf v).toNat)
          case atStart => exact ⟨0, by omega, rfl, Mod.refl _ _⟩
          case round =>
            obtain ⟨k, hk, rfl, hmod1⟩ := hrel
            have HMOD1 := Lib.hid hmod1
            clear hmod1
            by_cases hlt1 : k < m
            · have hkm : k < M.length := by have := HM9.out; omega
              obtain ⟨mt, hmt⟩ : ∃ t, M[k] = t := ⟨_, rfl⟩
              have HMT := Lib.hid hmt
              clear hmt
              go_wp2_with fail
              go_loopw [17, 18] (fun u v wr => ∃ j : Nat, j ≤ dl ∧ v = .int .i64 j ∧ u = .int .i64 ((D2.take j).countP (sideB mt) : Nat) ∧ Mod nil w9 wr) (fun _ v _ => dl - (intOf v).toNat)
              case atStart => exact ⟨0, by omega, rfl, rfl, HMOD1.out⟩
              case round =>
                obtain ⟨j, hj, rfl, rfl, hmod2⟩ := hrel
                have HMOD2 := Lib.hid hmod2
                obtain ⟨g8, o8, ⟨c', hv⟩, _, hgl8, e0, e1, e2, e3, e4, e5, e6⟩ := trade_cells (l := M) (by rw [HM9.out]; exact HMM.out.modNil hmod2) k hkm
                simp only [Value.slice.injEq] at hv
                obtain ⟨rfl, -, rfl⟩ := hv
                rw [HMT.out] at e0 e1 e2 e3 e4 e5 e6
                by_cases hlt2 : j < dl
                · have hjd : j < D2.length := by have := HDL.out; omega
                  obtain ⟨gd, od, ⟨c', hv⟩, _, hgld, d0, d1, d2, d3, d4, d5, d6, d7⟩ := said_cells (l := D2) (by rw [HDL.out]; exact HCC.out.modNil hmod2) j hjd
                  simp only [Value.slice.injEq] at hv
                  obtain ⟨rfl, -, rfl⟩ := hv
                  obtain ⟨y, hy⟩ : ∃ y, D2[j] = y := ⟨_, rfl⟩
                  rw [hy] at d0 d1 d2 d3 d4 d5 d6 d7
                  have hcnt : (D2.take (j + 1)).countP (sideB mt) = (D2.take j).countP (sideB mt) + (if sideB mt y then 1 else 0) := by
                    rw [← List.take_append_getElem hjd, List.countP_append, hy]
                    simp [List.countP_cons]
                  have hcb : (D2.take j).countP (sideB mt) ≤ 400 := by
                    have h1 := List.countP_le_length (p := sideB mt) (l := D2.take j)
                    simp only [List.length_take] at h1
                    omega
                  obtain ⟨q, hq⟩ : ∃ q, (D2.take j).countP (sideB mt) = q := ⟨_, rfl⟩
                  rw [hq] at hcnt hcb ⊢
                  clear hy hq hmod2
                  obtain ⟨yw, ⟨y1, y2, y3, y4, y5, y6, y7⟩⟩ := y
                  obtain ⟨m1, m2, m3, m4, m5, m6, m7⟩ := mt
                  have heq := trade_eq ⟨y1, y2, y3, y4, y5, y6, y7⟩ ⟨m1, m2, m3, m4, m5, m6, m7⟩
                  simp only [T7.val] at heq
                  by_cases hyt : (⟨y1, y2, y3, y4, y5, y6, y7⟩ : T7) = ⟨m1, m2, m3, m4, m5, m6, m7⟩
                  · simp only [T7.mk.injEq] at hyt
                    obtain ⟨rfl, rfl, rfl, rfl, rfl, rfl, rfl⟩ := hyt
                    rcases (show yw = y2 ∨ (yw ≠ y2 ∧ yw = y3) ∨ (yw ≠ y2 ∧ yw ≠ y3) by omega) with hw | ⟨hw, hw'⟩ | ⟨hw, hw'⟩
                    · rw [if_pos (by simp [sideB, hw])] at hcnt
                      have HCNT := Lib.hid hcnt
                      clear hcnt heq
                      have hb1 : (yw == y2) = true := by simpa using hw
                      clear hw
                      go_upto_region 21 with (fail)
                      go_quiet (fail)
                      go_wp2_with fail
                      exact ⟨⟨j + 1, by omega, by go_num, by rw [HCNT.out]; go_num, HMOD2.out.drewN _⟩, by simp [intOf]; omega⟩
                    · rw [if_pos (by simp [sideB, hw'])] at hcnt
                      have HCNT := Lib.hid hcnt
                      clear hcnt heq
                      have hb1 : (yw == y2) = false := by simpa using hw
                      have hb2 : (yw == y3) = true := by simpa using hw'
                      clear hw hw'
                      go_upto_region 21 with (fail)
                      go_quiet (fail)
                      go_wp2_with fail
                      exact ⟨⟨j + 1, by omega, by go_num, by rw [HCNT.out]; go_num, HMOD2.out.drewN _⟩, by simp [intOf]; omega⟩
                    · rw [if_neg (by simp [sideB, hw, hw'])] at hcnt
                      have HCNT := Lib.hid hcnt
                      clear hcnt heq
                      have hb1 : (yw == y2) = false := by simpa using hw
                      have hb2 : (yw == y3) = false := by simpa using hw'
                      clear hw hw'
                      go_upto_region 21 with (fail)
                      go_quiet (fail)
                      go_wp2_with fail
                      exact ⟨⟨j + 1, by omega, by go_num, by rw [HCNT.out]; go_num, HMOD2.out.drewN _⟩, by simp [intOf]; omega⟩
                  · rw [if_neg (by simp only [sideB, decide_eq_true_eq]; exact fun h => hyt h.1)] at hcnt
                    rw [decide_eq_false hyt] at heq
                    have HCNT := Lib.hid hcnt
                    clear hcnt hyt
                    go_upto_region 21 with (fail)
                    go_quiet (fail)
                    go_wp2_with fail
                    exact ⟨⟨j + 1, by omega, by go_num, by rw [HCNT.out]; go_num, HMOD2.out.drewN _⟩, by simp [intOf]; omega⟩
                · obtain rfl : j = dl := by omega
                  have hmem : mt ∈ matchedOf D2 := by rw [HMQ.out, ← HMT.out]; exact List.getElem_mem hkm
                  have hc2 : (((D2.take j).countP (sideB mt) : Nat) : Int) = 2 := by
                    rw [show D2.take j = D2 from by rw [← HDL.out, List.take_length], sides_two HINV.out hmem]
                    rfl
                  rw [hc2]
                  have hno := matched_not_open hmem
                  rw [HOQ.out] at hno
                  have HHAS : Hid (∀ n, Calls Try.prog 12 #[.slice p9 O.length c9, .int .i64 mt.id] (wr.drewN n) fun e w' => e = .returned (.bool false) ∧ w' = wr.drewN n) := Lib.hid (fun n => by
                    have h := refHas _ _ O mt.id _ (HO.out.modNil (hmod2.drewN n)) (by have h1 := idsOf_length D2; have h2 := HOQ.out; rw [openOf_eq] at h2; have h3 := List.length_filter_le (fun i => (pairOf D2 i).isNone) (idsOf D2); rw [h2] at h3; have := HDL.out; omega)
                    rw [decide_eq_false hno] at h
                    exact h.mono (fun _ _ h => ⟨h.1, h.2.symm⟩))
                  clear hc2 hno hmem hmod2
                  obtain ⟨m1, m2, m3, m4, m5, m6, m7⟩ := mt
                  rcases Nat.eq_zero_or_pos k with hk0 | hk0
                  · have hb : decide ((0 : Int) < (k : Int)) = false := by simp; omega
                    have hbn : decide (0 < k) = false := by simp; omega
                    clear hk0
                    go_upto_region 23 with (fail)
                    go_quiet (first | (go_at_call 12; exact Calls.quiet_of_same (HHAS.out _)))
                    go_wp2_with fail
                    exact ⟨⟨k + 1, by omega, by go_num, HMOD2.out.drewN _⟩, by simp [intOf]; omega⟩
                  · obtain ⟨k1, rfl⟩ : ∃ k1, k = k1 + 1 := ⟨k - 1, by omega⟩
                    obtain ⟨g8', o8', ⟨c', hv⟩, _, hgl8', f0, _⟩ := trade_cells (l := M) (by rw [HM9.out]; exact HMM.out.modNil HMOD2.out) k1 (by omega)
                    simp only [Value.slice.injEq, Option.some.injEq, Addr.mk.injEq] at hv
                    obtain ⟨⟨rfl, rfl, -⟩, -, rfl⟩ := hv
                    obtain ⟨x, hx⟩ : ∃ x, M[k1].id = x := ⟨_, rfl⟩
                    rw [hx] at f0
                    have hris : x < m1 := by
                      have h1 : k1 + 1 < (matchedOf D2).length := by rw [HMQ.out]; exact hkm
                      have h2 := matched_rises h1
                      simp only [HMQ.out] at h2
                      rw [hx, HMT.out] at h2
                      exact h2
                    have hb : decide (m1 ≤ x) = false := by simp; omega
                    clear hx hris
                    go_upto_region 23 with (fail)
                    go_quiet (first | (go_at_call 12; exact Calls.quiet_of_same (HHAS.out _)))
                    go_wp2_with fail
                    exact ⟨⟨k1 + 1 + 1, by omega, by go_num, HMOD2.out.drewN _⟩, by simp [intOf]; omega⟩
            · obtain rfl : k = m := by omega
              clear hlt1 hk
              go_wp2_with fail
              go_loopw [19] (fun v wr => ∃ q : Nat, q ≤ dl ∧ v = .int .i64 q ∧ Mod nil w9 wr) (fun v _ => dl - (intOf v).toNat)
              case atStart => exact ⟨0, by omega, rfl, HMOD1.out⟩
              case round =>
                obtain ⟨q, hq, rfl, hmod3⟩ := hrel
                have HMOD3 := Lib.hid hmod3
                by_cases hlt3 : q < dl
                · have hqd : q < D2.length := by have := HDL.out; omega
                  obtain ⟨gd, od, ⟨c', hv⟩, _, hgld, d0, d1, _⟩ := said_cells (l := D2) (by rw [HDL.out]; exact HCC.out.modNil hmod3) q hqd
                  simp only [Value.slice.injEq] at hv
                  obtain ⟨rfl, -, rfl⟩ := hv
                  obtain ⟨y, hy⟩ : ∃ y, D2[q].t.id = y := ⟨_, rfl⟩
                  rw [hy] at d1
                  clear d0
                  have hin : y ∈ O ∨ M.any (fun t => decide (t.id = y)) = true := by
                    have h1 := matched_or_open (List.getElem_mem hqd)
                    rw [hy, HOQ.out, HMQ.out] at h1
                    rcases h1 with h1 | h1
                    · exact .inl h1
                    · obtain ⟨t, ht, hty⟩ := List.mem_map.1 h1
                      exact .inr (List.any_eq_true.2 ⟨t, ht, by simpa using hty⟩)
                  have HIN := Lib.hid hin
                  have hD1 := d1
                  have HD1 := Lib.hid hD1
                  have hol : O.length ≤ 9223372036854775807 := by have h1 := idsOf_length D2; have h2 := HOQ.out; rw [openOf_eq] at h2; have h3 := List.length_filter_le (fun i => (pairOf D2 i).isNone) (idsOf D2); rw [h2] at h3; have := HDL.out; omega
                  clear hy hin hD1 hmod3
                  go_wp2_with fail
                  refine (refHas _ _ O y _ (HO.out.modNil HMOD3.out) hol).mono ?_
                  obtain ⟨r0, hr0⟩ : ∃ r, decide (y ∈ O) = r := ⟨_, rfl⟩
                  rw [hr0]
                  have HR0 := Lib.hid hr0
                  clear hr0 hol
                  rintro e w10 ⟨rfl, rfl⟩
                  go_wp2_with fail
                  go_loopw [20, 21] (fun u v wr2 => ∃ j : Nat, j ≤ k ∧ v = .int .i64 j ∧ u = .bool (r0 || (M.take j).any (fun t => decide (t.id = y))) ∧ Mod nil wr wr2) (fun _ v _ => k - (intOf v).toNat)
                  case atStart => exact ⟨0, by omega, rfl, by simp, Mod.refl _ _⟩
                  case round =>
                    obtain ⟨j, hj, rfl, rfl, hmod4⟩ := hrel
                    by_cases hlt4 : j < k
                    · have hjm : j < M.length := by have := HM9.out; omega
                      obtain ⟨g8, o8, ⟨c', hv⟩, _, hgl8, e0, _⟩ := trade_cells (l := M) (by rw [HM9.out]; exact HMM.out.modNil (HMOD3.out.thenNil hmod4)) j hjm
                      simp only [Value.slice.injEq] at hv
                      obtain ⟨rfl, -, rfl⟩ := hv
                      have d1' := cell_kept HD1.out hmod4 hgld (not_nil _)
                      have hany := any_take_succ M j hjm (fun t => decide (t.id = y))
                      obtain ⟨x, hx⟩ : ∃ x, M[j].id = x := ⟨_, rfl⟩
                      simp only [hx] at hany
                      rw [hx] at e0
                      obtain ⟨b1, hb1⟩ : ∃ c, (M.take j).any (fun t => decide (t.id = y)) = c := ⟨_, rfl⟩
                      rw [hb1] at hany ⊢
                      have HANY := Lib.hid hany
                      have HMOD4 := Lib.hid hmod4
                      clear hx hb1 hany hmod4 d1
                      rcases (show (r0 || b1) = true ∨ (r0 = false ∧ b1 = false) by cases r0 <;> cases b1 <;> simp) with hb | ⟨rfl, rfl⟩
                      · rw [hb]
                        have HB := Lib.hid hb
                        clear hb
                        go_upto_region 32 with (fail)
                        go_quiet (fail)
                        go_wp2_with fail
                        exact ⟨⟨j + 1, by omega, by go_num, by rw [HANY.out, ← Bool.or_assoc, HB.out]; rfl, HMOD4.out.drewN _⟩, by simp [intOf]; omega⟩
                      · simp only [Bool.or_self, Bool.false_or] at HANY ⊢
                        by_cases hxy : x = y
                        · have hb2 : (x == y) = true := by simpa using hxy
                          have HXY := Lib.hid hxy
                          clear hxy
                          go_upto_region 32 with (fail)
                          go_quiet (fail)
                          go_wp2_with fail
                          exact ⟨⟨j + 1, by omega, by go_num, by rw [HANY.out]; simp [HXY.out], HMOD4.out.drewN _⟩, by simp [intOf]; omega⟩
                        · have hb2 : (x == y) = false := by simpa using hxy
                          have HXY := Lib.hid hxy
                          clear hxy
                          go_upto_region 32 with (fail)
                          go_quiet (fail)
                          go_wp2_with fail
                          exact ⟨⟨j + 1, by omega, by go_num, by rw [HANY.out]; simp [HXY.out], HMOD4.out.drewN _⟩, by simp [intOf]; omega⟩
                    · obtain rfl : j = k := by omega
                      have hfin : (r0 || (M.take j).any (fun t => decide (t.id = y))) = true := by
                        rw [show M.take j = M from by rw [← HM9.out, List.take_length]]
                        rcases HIN.out with h | h
                        · rw [← HR0.out, decide_eq_true h]; rfl
                        · rw [h]; simp
                      rw [hfin]
                      clear hfin
                      have HMOD4 := Lib.hid hmod4
                      clear hmod4
                      go_wp2_with fail
                      exact ⟨⟨q + 1, by omega, by go_num, HMOD3.out.thenNil HMOD4.out⟩, by simp [intOf]; omega⟩
                · obtain rfl : q = dl := by omega
                  have hgr : (matchedOf D).length ≤ k := by have := HGROW.out; rw [HMQ.out, HM9.out] at this; exact this
                  clear hlt3 hq
                  have HDD3 := Lib.hid (HDD.out.modNil hmod3)
                  clear hmod3
                  go_wp2_with fail
                  exact ⟨⟨i + 1, D2, p8, c8, by omega, by go_num, by have := HDL.out; omega, by rw [HMQ.out, HM9.out], HINV.out, HDD3.out⟩, by simp [intOf]; omega⟩
        · obtain rfl : i = n := by omega
          go_wp2_with fail
          refine (tradeFirst _).mono ?_
          rintro e w5 ⟨rfl, hm5⟩
          go_wp2_with fail
          go_ret
          exact ⟨rfl, (HM3.out.new (hdn.mod.thenNil hm5) (fun k hk => hk ▸ HB3.out)).below⟩
    · clear HD3
      go_wp2_with fail
      refine (tradeFirst w3).mono ?_
      rintro e w4 ⟨rfl, hm4⟩
      go_wp2_with fail
      go_ret
      exact ⟨rfl, (HM3.out.thenNil hm4).below⟩
  · go_wp2_with fail
    refine (tradeNew_bad pp cc aa w2 hok).mono ?_
    rintro e w3 ⟨rfl, rfl⟩
    go_wp2_with fail
    refine (tradeFirst w2).mono ?_
    rintro e w4 ⟨rfl, hm4⟩
    go_wp2_with fail
    go_ret
    exact ⟨rfl, (HM2.out.thenNil hm4).below⟩
end Go.Proofs.Ytdpaklpaanojpaa

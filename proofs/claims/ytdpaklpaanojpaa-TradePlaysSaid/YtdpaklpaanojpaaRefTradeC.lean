/- The reference's desk: pair; the law's Same. -/
import Derived.Test.YtdpaklpaanojpaaRefTradeB
import Derived.Test.YtdpaklpaanojpaaRefPlain
import Derived.Test.YtdpaklpaanojpaaHas
namespace Go.Proofs.Ytdpaklpaanojpaa
open Go.RowKit

set_option maxRecDepth 100000 in
set_option maxHeartbeats 4000000 in
theorem refPair (x : Nat) (S : Nat → Prop) (p c a : Int) (l : List Said) (id : Int) (w : World) (h : IsRefT w x S p c a l) (hi : Inv l) (hl : l.length ≤ 400) :
    Calls Try.prog 30 #[.pointer (some ⟨x, 0, none⟩), .int .i64 id] w fun e w' => ((∃ (i : Nat) (y : Said), l[i]? = some y ∧ e = .returned (.int .i64 i) ∧ pairOf l id = some y.t) ∨ (e = .returned (.int .i64 (-1)) ∧ pairOf l id = none)) ∧ Mod nil w w' := by
  obtain ⟨S1, S2, v1, v2, h1, h2, h3, h4, h5⟩ := h.ex
  obtain ⟨n, hn⟩ : ∃ n, l.length = n := ⟨_, rfl⟩
  rw [hn] at hl h2 h3
  have HLN := Lib.hid hn
  have HI := Lib.hid hi
  obtain ⟨pl, cl, rfl⟩ := h3.form
  have HO := Lib.hid h1
  have hlc0 : IsCells S2 w (.slice pl n cl) (l.map (·.t)).length (trades (l.map (·.t))) := by rw [List.length_map, hn, ← tvals_trades]; exact h3.cells
  have HC := Lib.hid hlc0
  clear hn hi h h1 h2 h3 h4 h5 hlc0
  go_enter Try.func30, Try.ntmps30
  go_wp2_with fail
  go_loopw [5] (fun v wr => ∃ k : Nat, k ≤ n ∧ v = .int .i64 k ∧ Mod nil w wr ∧ Hid (∀ j, j < k → ¬ hasLater l id j)) (fun v _ => n - (intOf v).toNat)
  case atStart => exact ⟨0, by omega, rfl, Mod.refl _ _, Lib.hid (by omega)⟩
  case round =>
    obtain ⟨k, hk, rfl, hmod, HNO⟩ := hrel
    have HMOD := Lib.hid hmod
    have c4 : wr.cell? ⟨x, 4, none⟩ = some (.slice pl n cl) := cell_of (hmod.keep HO.out) 4
    clear hmod
    by_cases hlt : k < n
    · have hkl : k < l.length := by have := HLN.out; omega
      obtain ⟨y, hy⟩ : ∃ y, l[k] = y := ⟨_, rfl⟩
      have HY : Hid (l[k]? = some y) := Lib.hid (by rw [List.getElem?_eq_getElem hkl, hy])
      go_wp2_with fail
      go_loopw [6] (fun v wr2 => ∃ m : Nat, k + 1 ≤ m ∧ m ≤ n ∧ v = .int .i64 m ∧ Mod nil w wr2 ∧ Hid (∀ j z, k < j → j < m → l[j]? = some z → z.t ≠ y.t)) (fun v _ => n - (intOf v).toNat)
      case atStart => exact ⟨k + 1, by omega, by omega, by go_num, HMOD.out, Lib.hid (by omega)⟩
      case round =>
        obtain ⟨m, hkm, hmn, rfl, hmod2, HALL⟩ := hrel
        have HMOD2 := Lib.hid hmod2
        clear c4
        have c4 : wr.cell? ⟨x, 4, none⟩ = some (.slice pl n cl) := cell_of (hmod2.keep HO.out) 4
        obtain ⟨gl, ol, ⟨c', hv⟩, _, hgl, e0, e1, e2, e3, e4, e5, e6⟩ := trade_cells (HC.out.modNil hmod2) k (by simpa using hkl)
        simp only [Value.slice.injEq] at hv
        obtain ⟨rfl, -, rfl⟩ := hv
        rw [List.getElem_map, hy] at e0 e1 e2 e3 e4 e5 e6
        obtain ⟨yw, ⟨y1, y2, y3, y4, y5, y6, y7⟩⟩ := y
        simp only at e0 e1 e2 e3 e4 e5 e6
        by_cases hlm : m < n
        · by_cases hid : y1 = id
          · have hml : m < l.length := by have := HLN.out; omega
            obtain ⟨gl', ol', ⟨c', hv⟩, _, hgl', f0, f1, f2, f3, f4, f5, f6⟩ := trade_cells (HC.out.modNil hmod2) m (by simpa using hml)
            simp only [Value.slice.injEq, Option.some.injEq, Addr.mk.injEq] at hv
            obtain ⟨⟨rfl, rfl, -⟩, -, -⟩ := hv
            obtain ⟨z, hz⟩ : ∃ z, l[m] = z := ⟨_, rfl⟩
            have HZ : Hid (l[m]? = some z) := Lib.hid (by rw [List.getElem?_eq_getElem hml, hz])
            rw [List.getElem_map, hz] at f0 f1 f2 f3 f4 f5 f6
            clear hz hy hmod2
            obtain ⟨zw, ⟨z1, z2, z3, z4, z5, z6, z7⟩⟩ := z
            simp only at f0 f1 f2 f3 f4 f5 f6
            have heq := trade_eq ⟨z1, z2, z3, z4, z5, z6, z7⟩ ⟨y1, y2, y3, y4, y5, y6, y7⟩
            simp only [T7.val] at heq
            have hb : (y1 == id) = true := by simpa using hid
            have HID := Lib.hid hid
            clear hid
            by_cases hzy : (⟨z1, z2, z3, z4, z5, z6, z7⟩ : T7) = ⟨y1, y2, y3, y4, y5, y6, y7⟩
            · rw [decide_eq_true hzy] at heq
              have HZY := Lib.hid hzy
              clear hzy
              go_upto_region 7 with (fail)
              go_quiet (fail)
              go_wp2_with fail
              go_ret
              exact ⟨.inl ⟨k, _, HY.out, rfl, pair_at HI.out HY.out ⟨_, HY.out, HID.out, m, _, by omega, HZ.out, HZY.out⟩ HNO.out⟩, HMOD2.out.drewN _⟩
            · rw [decide_eq_false hzy] at heq
              have HZY := Lib.hid hzy
              clear hzy
              go_upto_region 7 with (fail)
              go_quiet (fail)
              go_wp2_with fail
              refine ⟨⟨m + 1, by omega, by omega, by go_num, HMOD2.out.drewN _, Lib.hid (fun j z hj1 hj2 hjz => ?_)⟩, by simp [intOf]; omega⟩
              rcases (show j < m ∨ j = m by omega) with hj | rfl
              · exact HALL.out j z hj1 hj hjz
              · have := HZ.out.symm.trans hjz
                obtain rfl := Option.some.inj this
                exact HZY.out
          · have hb : (y1 == id) = false := by simpa using hid
            have HID := Lib.hid hid
            clear hid hmod2 hy
            go_wp2_with fail
            refine ⟨⟨k + 1, by omega, by go_num, HMOD2.out, Lib.hid (fun j hj => ?_)⟩, by simp [intOf]; omega⟩
            rcases (show j < k ∨ j = k by omega) with hj | rfl
            · exact HNO.out j hj
            · rintro ⟨x', hx', h1, _⟩
              obtain rfl := Option.some.inj (HY.out.symm.trans hx')
              exact HID.out h1
        · obtain rfl : m = n := by omega
          clear hmod2 hy
          go_wp2_with fail
          refine ⟨⟨k + 1, by omega, by go_num, HMOD2.out, Lib.hid (fun j hj => ?_)⟩, by simp [intOf]; omega⟩
          rcases (show j < k ∨ j = k by omega) with hj | rfl
          · exact HNO.out j hj
          · rintro ⟨x', hx', _, q, z, hq1, hq2, hq3⟩
            obtain rfl := Option.some.inj (HY.out.symm.trans hx')
            have hql := (List.getElem?_eq_some_iff.1 hq2).1
            exact HALL.out q z hq1 (by have := HLN.out; omega) hq2 hq3
    · obtain rfl : k = n := by omega
      go_wp2_with fail
      go_ret
      exact ⟨.inr ⟨rfl, pair_none (fun j hj => HNO.out j (by have := HLN.out; omega))⟩, HMOD.out⟩
set_option maxRecDepth 100000 in
set_option maxHeartbeats 4000000 in
theorem lawSame (S T : Nat → Prop) (va vb : Value) (la lb : List T7) (w : World) (ha : IsCells S w va la.length (trades la)) (hb : IsCells T w vb lb.length (trades lb)) (hl : la.length ≤ 9223372036854775807) (he : la = lb) :
    Calls Try.prog 18 #[va, vb] w fun e w' => e = .returned (.bool true) ∧ Mod nil w w' := by
  subst he
  have HA := Lib.hid ha
  have HB := Lib.hid hb
  obtain ⟨pa, ca, rfl⟩ := cells_slice ha
  obtain ⟨pb, cb, rfl⟩ := cells_slice hb
  obtain ⟨n, hn⟩ : ∃ n, la.length = n := ⟨_, rfl⟩
  rw [hn] at hl ⊢
  have HN := Lib.hid hn
  clear ha hb hn
  go_enter Try.func18, Try.ntmps18
  go_wp2_with fail
  go_loopw [5] (fun v wr => ∃ k : Nat, k ≤ n ∧ v = .int .i64 k ∧ Mod nil w wr) (fun v _ => n - (intOf v).toNat)
  case atStart => exact ⟨0, by omega, rfl, Mod.refl _ _⟩
  case round =>
    obtain ⟨k, hk, rfl, hmod⟩ := hrel
    by_cases hlt : k < n
    · have hkl : k < la.length := by have := HN.out; omega
      obtain ⟨ga, oa, ⟨c', hv⟩, _, _, e0, e1, e2, e3, e4, e5, e6⟩ := trade_cells (HA.out.modNil hmod) k hkl
      simp only [Value.slice.injEq] at hv
      obtain ⟨rfl, -, -⟩ := hv
      obtain ⟨gb, ob, ⟨c', hv⟩, _, _, f0, f1, f2, f3, f4, f5, f6⟩ := trade_cells (HB.out.modNil hmod) k hkl
      simp only [Value.slice.injEq] at hv
      obtain ⟨rfl, -, -⟩ := hv
      obtain ⟨y, hy⟩ : ∃ y, la[k] = y := ⟨_, rfl⟩
      rw [hy] at e0 e1 e2 e3 e4 e5 e6 f0 f1 f2 f3 f4 f5 f6
      have HMOD := Lib.hid hmod
      clear hy hmod
      obtain ⟨y1, y2, y3, y4, y5, y6, y7⟩ := y
      simp only at e0 e1 e2 e3 e4 e5 e6 f0 f1 f2 f3 f4 f5 f6
      have heq := trade_ne ⟨y1, y2, y3, y4, y5, y6, y7⟩ ⟨y1, y2, y3, y4, y5, y6, y7⟩
      simp only [T7.val, decide_true, Bool.not_true] at heq
      go_upto_region 6 with (fail)
      go_quiet (fail)
      go_wp2_with fail
      exact ⟨⟨k + 1, by omega, by go_num, HMOD.out.drewN _⟩, by simp [intOf]; omega⟩
    · obtain rfl : k = n := by omega
      go_wp2_with fail
      go_ret
      exact ⟨rfl, hmod⟩
end Go.Proofs.Ytdpaklpaanojpaa

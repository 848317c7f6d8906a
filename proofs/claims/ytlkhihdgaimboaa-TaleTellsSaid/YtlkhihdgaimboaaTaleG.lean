/- Package tale: keep, event. -/
import Derived.Test.YtlkhihdgaimboaaTaleF
namespace Go.Proofs.Ytlkhihdgaimboaa
open Go.RowKit

/-- the bits of a byte, the lowest first -/
def bitOf (c k : Nat) : Bool := decide (c / 2 ^ k % 2 = 1)
def bitsTo (c : Nat) (k : Nat) : List Bool := (List.range k).map (bitOf c)
def bools (l : List Bool) : List Value := l.map Value.bool
theorem bools_length (l : List Bool) : (bools l).length = l.length := by simp [bools]
theorem bitsTo_succ (c k : Nat) : bitsTo c (k + 1) = bitsTo c k ++ [bitOf c k] := by simp [bitsTo, List.range_succ]
theorem bitsTo_length (c k : Nat) : (bitsTo c k).length = k := by simp [bitsTo]
theorem info_bool : (Try.prog.info? 4).map (fun i => (i.zero, i.size, i.bytes)) = some (some (.bool false), 1, 1) := by kernel_rfl
theorem bool_append {S : Nat → Prop} {w : World} (ty : TypeId) {v : Value} {n g : Nat} {xs : List Value} {b : Bool} (hv : IsVec S w 4 1 v n xs) (hg : w.heap.size = g) (hb : n ≤ 100000) :
    ∃ v' w', (Builtin.append_ #[26, 26] ty #[v, .slice (some ⟨g, 0, none⟩) 1 1]).run Try.prog (w.alloc (.cells #[.bool b] 4)) = .ok v' w' ∧ IsVec (fun k => S k ∨ w.heap.size ≤ k) w' 4 1 v' (n + 1) (xs ++ [.bool b]) ∧ Mod S w w' := by
  obtain ⟨i0, hi, hz0, hz1, hz2⟩ := info_parts info_bool
  have hm : Mod nil w (w.alloc (.cells #[.bool b] 4)) := (Mod.refl nil w).alloc _
  obtain ⟨v', w', hr, h2, h3⟩ := vec_append (P := Try.prog) 26 ty 4 i0 _ 1 1 Try.underlying26 hi hz0 hz1 hz2 rfl (by omega) (hv.modNil hm) (cells_at w 4 [.bool b] 1 1 g hg) rfl (by intro u hu; rw [List.mem_singleton.1 hu]; rfl) (by unfold maxLen; omega) (by omega)
  exact ⟨v', w', hr, h2.mono (fun k _ hk => hk.imp id (fun h => Nat.le_trans hm.size h)), hm.ofNil.trans h3 (fun _ _ h => h)⟩
theorem and1_u8 : ∀ c : Fin 256, bits .and .u8 (c.val : Int) 1 = ((c.val % 2 : Nat) : Int) := by decide +kernel
theorem bit_at (c : Nat) (hc : c < 256) (i : Nat) : decide (0 < bits .and .u8 ((c : Int) / 2 ^ i) 1) = bitOf c i := by
  have hd : c / 2 ^ i < 256 := Nat.lt_of_le_of_lt (Nat.div_le_self _ _) hc
  have h := and1_u8 ⟨c / 2 ^ i, hd⟩
  simp only at h
  have e : ((c : Int) / 2 ^ i) = ((c / 2 ^ i : Nat) : Int) := by simp
  rw [e, h]
  unfold bitOf
  rw [decide_eq_decide]
  omega
set_option maxRecDepth 100000 in
theorem taleKeep (c : Nat) (hc : c < 256) (w : World) :
    Calls Try.prog 33 #[.int .u8 c] w fun e w' => ∃ v', e = .returned v' ∧ IsVec (fun k => w.heap.size ≤ k) w' 4 1 v' 8 (bools (bitsTo c 8)) ∧ Mod nil w w' := by
  refine (?_ : ∀ Post : Ending → World → Prop, Hid (∀ e w', (∃ v', e = .returned v' ∧ IsVec (fun k => w.heap.size ≤ k) w' 4 1 v' 8 (bools (bitsTo c 8)) ∧ Mod nil w w') → Post e w') → Calls Try.prog 33 #[.int .u8 c] w Post) _ (Lib.hid (fun _ _ h => h))
  intro Post HPOST
  obtain ⟨g, hg⟩ : ∃ g, w.heap.size = g := ⟨_, rfl⟩
  rw [hg] at HPOST
  have HG := Lib.hid hg
  clear hg
  go_enter Try.func33, Try.ntmps33
  go_wp2_with fail
  go_loopw [3, 5] (fun v3 v5 wr => ∃ (i : Nat) (p : Option Addr) (q : Nat), i ≤ 8 ∧ v5 = .int .i64 i ∧ v3 = .slice p i q ∧ Hid (IsVec (fun k => g ≤ k) wr 4 1 (.slice p i q) i (bools (bitsTo c i))) ∧ Hid (Mod nil w wr)) (fun _ v _ => 8 - (intOf v).toNat)
  case atStart => exact ⟨0, none, 0, by omega, rfl, rfl, Lib.hid (IsVec.nil _ _ _ _), Lib.hid (Mod.refl _ _)⟩
  case round =>
    obtain ⟨i, p, q, hi, rfl, rfl, HVR, HMR⟩ := hrel
    by_cases hlt : i < 8
    · obtain ⟨v7, w7, hrun, hvec, hmod⟩ := bool_append (b := decide (0 < bits .and .u8 ((c : Int) / 2 ^ i) 1)) 26 HVR.out rfl (by omega)
      obtain ⟨p7, q7, rfl⟩ := hvec.form
      have HRUN := Lib.hid hrun
      have HV7 : Hid (IsVec (fun k => g ≤ k) w7 4 1 (.slice p7 (i + 1) q7) (i + 1) (bools (bitsTo c (i + 1)))) := Lib.hid (by
        rw [bit_at c hc i] at hvec
        rw [bitsTo_succ]
        simp only [bools, List.map_append, List.map_cons, List.map_nil] at hvec ⊢
        exact hvec.mono (fun k _ hk => hk.elim id (fun h => by have := HG.out; have := HMR.out.size; omega)))
      have HM7 : Hid (Mod nil w w7) := Lib.hid (HMR.out.trans hmod (fun k hk h => by have := HG.out; omega))
      clear hrun hvec hmod
      go_wp2_with (first | (at_builtin; refine wpList_append_run rfl _ _ _ _ rfl rfl rfl HRUN.out ?_))
      exact ⟨⟨i + 1, p7, q7, by omega, rfl, rfl, HV7, HM7⟩, by simp [intOf] <;> omega⟩
    · obtain rfl : i = 8 := by omega
      have HEND : Hid (Post (.returned (.slice p 8 q)) wr) := Lib.hid (HPOST.out _ _ ⟨_, rfl, HVR.out, HMR.out⟩)
      go_wp2_with fail
      exact HEND.out
structure EvM where
  k : Int
  a : Int
  b : Int
  n : Int
  bytes : List UInt8
  keep : List Bool
  deriving DecidableEq
/-- an event's values tell an event -/
def EvIs (S : Nat → Prop) (w : World) (e : Ev) (m : EvM) : Prop := e.k = m.k ∧ e.a = m.a ∧ e.b = m.b ∧ e.n = m.n ∧ IsRow S w e.x (bys m.bytes) ∧ IsRow S w e.y (bools m.keep)
theorem EvIs.mod {S T : Nat → Prop} {w w' : World} {e : Ev} {m : EvM} (h : EvIs S w e m) (hm : Mod T w w') (hs : ∀ i, i < w.heap.size → S i → ¬ T i) : EvIs S w' e m :=
  ⟨h.1, h.2.1, h.2.2.1, h.2.2.2.1, h.2.2.2.2.1.mod hm hs, h.2.2.2.2.2.mod hm hs⟩
theorem EvIs.mono {S T : Nat → Prop} {w : World} {e : Ev} {m : EvM} (h : EvIs S w e m) (hs : ∀ i, i < w.heap.size → S i → T i) : EvIs T w e m :=
  ⟨h.1, h.2.1, h.2.2.1, h.2.2.2.1, h.2.2.2.2.1.mono hs, h.2.2.2.2.2.mono hs⟩
theorem row_nil (S : Nat → Prop) (w : World) : IsRow S w (.slice none 0 0) [] := ⟨none, 0, rfl, fun i hi => by simp at hi⟩
theorem EvIs.plain (S : Nat → Prop) (w : World) (k a b n : Int) : EvIs S w (ev4 k a b n) ⟨k, a, b, n, [], []⟩ := ⟨rfl, rfl, rfl, rfl, row_nil S w, row_nil S w⟩
theorem set_cells15 {w : World} {g : Nat} {a0 a1 a2 a3 a4 a5 a6 a7 a8 a9 a10 a11 a12 a13 a14 : Value} {T : TypeId} {fr : Nat × Nat} (h : w.heap[g]? = some (.cells #[a0, a1, a2, a3, a4, a5, a6, a7, a8, a9, a10, a11, a12, a13, a14] T fr)) (v0 v1 v2 v3 v4 v5 v6 v7 v8 v9 v10 v11 v12 v13 v14 : Value) :
    (((((((((((((((w.setCell ⟨g, 0, none⟩ v0).setCell ⟨g, 1, none⟩ v1).setCell ⟨g, 2, none⟩ v2).setCell ⟨g, 3, none⟩ v3).setCell ⟨g, 4, none⟩ v4).setCell ⟨g, 5, none⟩ v5).setCell ⟨g, 6, none⟩ v6).setCell ⟨g, 7, none⟩ v7).setCell ⟨g, 8, none⟩ v8).setCell ⟨g, 9, none⟩ v9).setCell ⟨g, 10, none⟩ v10).setCell ⟨g, 11, none⟩ v11).setCell ⟨g, 12, none⟩ v12).setCell ⟨g, 13, none⟩ v13).setCell ⟨g, 14, none⟩ v14).heap[g]? = some (.cells #[v0, v1, v2, v3, v4, v5, v6, v7, v8, v9, v10, v11, v12, v13, v14] T fr) ∧ Mod (· = g) w (((((((((((((((w.setCell ⟨g, 0, none⟩ v0).setCell ⟨g, 1, none⟩ v1).setCell ⟨g, 2, none⟩ v2).setCell ⟨g, 3, none⟩ v3).setCell ⟨g, 4, none⟩ v4).setCell ⟨g, 5, none⟩ v5).setCell ⟨g, 6, none⟩ v6).setCell ⟨g, 7, none⟩ v7).setCell ⟨g, 8, none⟩ v8).setCell ⟨g, 9, none⟩ v9).setCell ⟨g, 10, none⟩ v10).setCell ⟨g, 11, none⟩ v11).setCell ⟨g, 12, none⟩ v12).setCell ⟨g, 13, none⟩ v13).setCell ⟨g, 14, none⟩ v14) := by
  have h0 := h
  have m0 := Mod.refl (· = g) w
  have h1 := heap_setCell_same (off := 0) h0 v0
  simp only [List.setIfInBounds_toArray, List.set_cons_zero, List.set_cons_succ] at h1
  have m1 := m0.setCell ⟨g, 0, none⟩ v0 (fun _ => rfl)
  have h2 := heap_setCell_same (off := 1) h1 v1
  simp only [List.setIfInBounds_toArray, List.set_cons_zero, List.set_cons_succ] at h2
  have m2 := m1.setCell ⟨g, 1, none⟩ v1 (fun _ => rfl)
  have h3 := heap_setCell_same (off := 2) h2 v2
  simp only [List.setIfInBounds_toArray, List.set_cons_zero, List.set_cons_succ] at h3
  have m3 := m2.setCell ⟨g, 2, none⟩ v2 (fun _ => rfl)
  have h4 := heap_setCell_same (off := 3) h3 v3
  simp only [List.setIfInBounds_toArray, List.set_cons_zero, List.set_cons_succ] at h4
  have m4 := m3.setCell ⟨g, 3, none⟩ v3 (fun _ => rfl)
  have h5 := heap_setCell_same (off := 4) h4 v4
  simp only [List.setIfInBounds_toArray, List.set_cons_zero, List.set_cons_succ] at h5
  have m5 := m4.setCell ⟨g, 4, none⟩ v4 (fun _ => rfl)
  have h6 := heap_setCell_same (off := 5) h5 v5
  simp only [List.setIfInBounds_toArray, List.set_cons_zero, List.set_cons_succ] at h6
  have m6 := m5.setCell ⟨g, 5, none⟩ v5 (fun _ => rfl)
  have h7 := heap_setCell_same (off := 6) h6 v6
  simp only [List.setIfInBounds_toArray, List.set_cons_zero, List.set_cons_succ] at h7
  have m7 := m6.setCell ⟨g, 6, none⟩ v6 (fun _ => rfl)
  have h8 := heap_setCell_same (off := 7) h7 v7
  simp only [List.setIfInBounds_toArray, List.set_cons_zero, List.set_cons_succ] at h8
  have m8 := m7.setCell ⟨g, 7, none⟩ v7 (fun _ => rfl)
  have h9 := heap_setCell_same (off := 8) h8 v8
  simp only [List.setIfInBounds_toArray, List.set_cons_zero, List.set_cons_succ] at h9
  have m9 := m8.setCell ⟨g, 8, none⟩ v8 (fun _ => rfl)
  have h10 := heap_setCell_same (off := 9) h9 v9
  simp only [List.setIfInBounds_toArray, List.set_cons_zero, List.set_cons_succ] at h10
  have m10 := m9.setCell ⟨g, 9, none⟩ v9 (fun _ => rfl)
  have h11 := heap_setCell_same (off := 10) h10 v10
  simp only [List.setIfInBounds_toArray, List.set_cons_zero, List.set_cons_succ] at h11
  have m11 := m10.setCell ⟨g, 10, none⟩ v10 (fun _ => rfl)
  have h12 := heap_setCell_same (off := 11) h11 v11
  simp only [List.setIfInBounds_toArray, List.set_cons_zero, List.set_cons_succ] at h12
  have m12 := m11.setCell ⟨g, 11, none⟩ v11 (fun _ => rfl)
  have h13 := heap_setCell_same (off := 12) h12 v12
  simp only [List.setIfInBounds_toArray, List.set_cons_zero, List.set_cons_succ] at h13
  have m13 := m12.setCell ⟨g, 12, none⟩ v12 (fun _ => rfl)
  have h14 := heap_setCell_same (off := 13) h13 v13
  simp only [List.setIfInBounds_toArray, List.set_cons_zero, List.set_cons_succ] at h14
  have m14 := m13.setCell ⟨g, 13, none⟩ v13 (fun _ => rfl)
  have h15 := heap_setCell_same (off := 14) h14 v14
  simp only [List.setIfInBounds_toArray, List.set_cons_zero, List.set_cons_succ] at h15
  have m15 := m14.setCell ⟨g, 14, none⟩ v14 (fun _ => rfl)
  exact ⟨h15, m15⟩
theorem info_size15 : (Try.prog.info? 32).map (·.size) = some 15 := by kernel_rfl
/-- the event of four bytes -/
def eventOf (c : List UInt8) (n : Nat) : EvM :=
  if (c.getD 0 0).toNat % 16 ≤ 2 then ⟨3, ((c.getD 1 0).toNat % n : Nat), ((c.getD 2 0).toNat % 2 : Nat), 0, [], []⟩
  else if (c.getD 0 0).toNat % 16 ≤ 7 then ⟨4, 0, 0, ((c.getD 3 0).toNat % 8 : Nat), [], []⟩
  else if (c.getD 0 0).toNat % 16 = 8 then ⟨1, 0, 0, (1 + (c.getD 3 0).toNat % 5 : Nat), [], []⟩
  else if (c.getD 0 0).toNat % 16 = 9 then ⟨5, 0, 0, ((c.getD 3 0).toNat % 8 : Nat), [], []⟩
  else if (c.getD 0 0).toNat % 16 = 10 then ⟨6, 0, 0, ((c.getD 3 0).toNat % 8 : Nat), [], []⟩
  else if (c.getD 0 0).toNat % 16 = 11 then ⟨2, ((c.getD 1 0).toNat % (n + 2) : Nat), 0, ((c.getD 2 0).toNat % 7 : Nat) - 3, [], []⟩
  else if (c.getD 0 0).toNat % 16 = 12 then ⟨8, ((c.getD 1 0).toNat % (n + 2) : Nat), 0, 0, [], bitsTo (c.getD 2 0).toNat 8⟩
  else if (c.getD 0 0).toNat % 16 = 13 then ⟨9, ((c.getD 1 0).toNat % (n + 2) : Nat), 0, ((c.getD 3 0).toNat % 12 : Nat), [], []⟩
  else if (c.getD 0 0).toNat % 16 = 14 then ⟨7, ((c.getD 1 0).toNat % (n + 2) : Nat), 0, 0, [c.getD 1 0, c.getD 2 0, c.getD 3 0], []⟩
  else ⟨11, ((c.getD 1 0).toNat % n : Nat), ((c.getD 2 0).toNat % 2 : Nat), (1 + (c.getD 3 0).toNat % 4 : Nat), [0, 0, 0], []⟩
set_option maxRecDepth 100000 in
set_option maxHeartbeats 8000000 in
theorem taleEvent (g o cap : Nat) (c0 c1 c2 c3 : UInt8) (n : Nat) (w : World) (h0 : w.cell? ⟨g, o, none⟩ = some (.int .u8 c0.toNat)) (h1 : w.cell? ⟨g, o + 1, none⟩ = some (.int .u8 c1.toNat)) (h2 : w.cell? ⟨g, o + 2, none⟩ = some (.int .u8 c2.toNat)) (h3 : w.cell? ⟨g, o + 3, none⟩ = some (.int .u8 c3.toNat)) (hcap : 4 ≤ cap) (hn : 2 ≤ n) (hn' : n ≤ 16) :
    Calls Try.prog 22 #[.slice (some ⟨g, o, none⟩) 4 cap, .int .i64 n] w fun e w' => ∃ v : Ev, e = .returned (.agg v.vals.toArray) ∧ EvIs (fun k => w.heap.size ≤ k) w' v (eventOf [c0, c1, c2, c3] n) ∧ Mod nil w w' := by
  refine (?_ : ∀ Post : Ending → World → Prop, Hid (∀ e w', (∃ v : Ev, e = .returned (.agg v.vals.toArray) ∧ EvIs (fun k => w.heap.size ≤ k) w' v (eventOf [c0, c1, c2, c3] n) ∧ Mod nil w w') → Post e w') → Calls Try.prog 22 #[.slice (some ⟨g, o, none⟩) 4 cap, .int .i64 n] w Post) _ (Lib.hid (fun _ _ h => h))
  intro Post HPOST
  have HC := Lib.hid (And.intro h0 (And.intro h1 (And.intro h2 h3)))
  obtain ⟨d0, hd0⟩ : ∃ d, c0.toNat = d := ⟨_, rfl⟩
  obtain ⟨d1, hd1⟩ : ∃ d, c1.toNat = d := ⟨_, rfl⟩
  obtain ⟨d2, hd2⟩ : ∃ d, c2.toNat = d := ⟨_, rfl⟩
  obtain ⟨d3, hd3⟩ : ∃ d, c3.toNat = d := ⟨_, rfl⟩
  have hb0 : d0 < 256 := by rw [← hd0]; exact UInt8.toNat_lt _
  have hb1 : d1 < 256 := by rw [← hd1]; exact UInt8.toNat_lt _
  have hb2 : d2 < 256 := by rw [← hd2]; exact UInt8.toNat_lt _
  have hb3 : d3 < 256 := by rw [← hd3]; exact UInt8.toNat_lt _
  rw [hd0] at h0
  rw [hd1] at h1
  rw [hd2] at h2
  rw [hd3] at h3
  obtain ⟨K, hK⟩ : ∃ K, d0 % 16 = K := ⟨_, rfl⟩
  obtain ⟨X, hX⟩ : ∃ X, d1 % n = X := ⟨_, rfl⟩
  obtain ⟨n2, hn2⟩ : ∃ n2, n + 2 = n2 := ⟨_, rfl⟩
  obtain ⟨Wh, hWh⟩ : ∃ Wh, d1 % n2 = Wh := ⟨_, rfl⟩
  obtain ⟨Y2, hY2⟩ : ∃ Y, d2 % 2 = Y := ⟨_, rfl⟩
  obtain ⟨Y7, hY7⟩ : ∃ Y, d2 % 7 = Y := ⟨_, rfl⟩
  obtain ⟨Z8, hZ8⟩ : ∃ Z, d3 % 8 = Z := ⟨_, rfl⟩
  obtain ⟨Z5, hZ5⟩ : ∃ Z, d3 % 5 = Z := ⟨_, rfl⟩
  obtain ⟨Z12, hZ12⟩ : ∃ Z, d3 % 12 = Z := ⟨_, rfl⟩
  obtain ⟨Z4, hZ4⟩ : ∃ Z, d3 % 4 = Z := ⟨_, rfl⟩
  have hev : eventOf [c0, c1, c2, c3] n = if K ≤ 2 then ⟨3, (X : Nat), (Y2 : Nat), 0, [], []⟩
      else if K ≤ 7 then ⟨4, 0, 0, (Z8 : Nat), [], []⟩ else if K = 8 then ⟨1, 0, 0, (1 + Z5 : Nat), [], []⟩ else if K = 9 then ⟨5, 0, 0, (Z8 : Nat), [], []⟩ else if K = 10 then ⟨6, 0, 0, (Z8 : Nat), [], []⟩
      else if K = 11 then ⟨2, (Wh : Nat), 0, (Y7 : Nat) - 3, [], []⟩ else if K = 12 then ⟨8, (Wh : Nat), 0, 0, [], bitsTo d2 8⟩ else if K = 13 then ⟨9, (Wh : Nat), 0, (Z12 : Nat), [], []⟩
      else if K = 14 then ⟨7, (Wh : Nat), 0, 0, [c1, c2, c3], []⟩ else ⟨11, (X : Nat), (Y2 : Nat), (1 + Z4 : Nat), [0, 0, 0], []⟩ := by
    simp only [eventOf, List.getD_cons_zero, List.getD_cons_succ, hd0, hd1, hd2, hd3, hK, hX, hn2, hWh, hY2, hY7, hZ8, hZ5, hZ12, hZ4]
  have HEV := Lib.hid hev
  clear hev
  have e1 : (d0 : Int).tmod 16 = (K : Int) := by rw [← hK]; rfl
  have e2 : (d1 : Int).tmod (n : Int) = (X : Int) := by rw [← hX]; rfl
  have e3 : IntKind.i64.wrap ((n : Int) + 2) = (n2 : Int) := by rw [IntKind.wrap_i64]; omega
  have e4 : (d1 : Int).tmod (n2 : Int) = (Wh : Int) := by rw [← hWh]; rfl
  have e5 : (d2 : Int).tmod 2 = (Y2 : Int) := by rw [← hY2]; rfl
  have e6 : (d2 : Int).tmod 7 = (Y7 : Int) := by rw [← hY7]; rfl
  have e7 : (d3 : Int).tmod 8 = (Z8 : Int) := by rw [← hZ8]; rfl
  have e8 : (d3 : Int).tmod 5 = (Z5 : Int) := by rw [← hZ5]; rfl
  have e9 : (d3 : Int).tmod 12 = (Z12 : Int) := by rw [← hZ12]; rfl
  have e10 : (d3 : Int).tmod 4 = (Z4 : Int) := by rw [← hZ4]; rfl
  have e11 : IntKind.i64.wrap (1 + (Z5 : Int)) = ((1 + Z5 : Nat) : Int) := by rw [IntKind.wrap_i64]; omega
  have e12 : IntKind.i64.wrap (1 + (Z4 : Int)) = ((1 + Z4 : Nat) : Int) := by rw [IntKind.wrap_i64]; omega
  have e13 : IntKind.i64.wrap ((Y7 : Int) - 3) = (Y7 : Int) - 3 := by rw [IntKind.wrap_i64]; omega
  have hw1 : IntKind.i64.wrap (d1 : Int) = (d1 : Int) := by rw [IntKind.wrap_i64]; omega
  have hw2 : IntKind.i64.wrap (d2 : Int) = (d2 : Int) := by rw [IntKind.wrap_i64]; omega
  have hw3 : IntKind.i64.wrap (d3 : Int) = (d3 : Int) := by rw [IntKind.wrap_i64]; omega
  have hn0 : ¬ (n : Int) = 0 := by omega
  have hnn : ¬ n = 0 := by omega
  have hn20 : ¬ (n2 : Int) = 0 := by omega
  have hnn2 : ¬ n2 = 0 := by omega
  have hK16 : K < 16 := by omega
  obtain ⟨G, hG⟩ : ∃ G, w.heap.size = G := ⟨_, rfl⟩
  rw [hG] at HPOST
  have HG := Lib.hid hG
  clear hG hK hX hn2 hWh hY2 hY7 hZ8 hZ5 hZ12 hZ4
  go_enter Try.func22, Try.ntmps22
  go_upto_region 1 with (fail)
  generalize hwa : World.alloc _ _ = wa
  have hma : Mod nil w wa := by rw [← hwa]; exact (Mod.refl _ _).alloc _
  have hba : wa.heap[G]? = some (.cells #[.int .i64 0, .int .i64 0, .int .i64 0, .int .i64 0, .slice none 0 0, .slice none 0 0, .int .i64 0, .slice none 0 0, .slice none 0 0, .string ⟨#[]⟩, .int .i64 0, .int .i64 0, .int .i64 0, .slice none 0 0, .string ⟨#[]⟩] 32 (0, 0)) := by rw [← hwa, ← HG.out]; exact heap_alloc_new _ _
  have k0 := cell_kept h0 hma (World.block_lt_of_cell? _ _ h0) (not_nil _)
  have k1 := cell_kept h1 hma (World.block_lt_of_cell? _ _ h1) (not_nil _)
  have k2 := cell_kept h2 hma (World.block_lt_of_cell? _ _ h2) (not_nil _)
  have k3 := cell_kept h3 hma (World.block_lt_of_cell? _ _ h3) (not_nil _)
  have HMA := Lib.hid hma
  have HBA := Lib.hid hba
  rw [show w.heap.size = G from HG.out]
  clear hma hba hwa h0 h1 h2 h3
  go_region_held3 (fun w' => w'.cell? ⟨g, o + 1, none⟩ = some (.int .u8 d1) ∧ w'.cell? ⟨g, o + 2, none⟩ = some (.int .u8 d2) ∧ w'.cell? ⟨g, o + 3, none⟩ = some (.int .u8 d3)) (exact ⟨k1, k2, k3⟩) (fail)
  have s0 := cell_of HBA.out 0
  have s1 := cell_of HBA.out 1
  have s2 := cell_of HBA.out 2
  have s3 := cell_of HBA.out 3
  have s4 := cell_of HBA.out 4
  have s5 := cell_of HBA.out 5
  have s6 := cell_of HBA.out 6
  have s7 := cell_of HBA.out 7
  have s8 := cell_of HBA.out 8
  have s9 := cell_of HBA.out 9
  have s10 := cell_of HBA.out 10
  have s11 := cell_of HBA.out 11
  have s12 := cell_of HBA.out 12
  have s13 := cell_of HBA.out 13
  have s14 := cell_of HBA.out 14
  simp only [List.getElem?_toArray, List.getElem?_cons_zero, List.getElem?_cons_succ] at s0 s1 s2 s3 s4 s5 s6 s7 s8 s9 s10 s11 s12 s13 s14
  have z0 := free_of HBA.out 0
  have z1 := free_of HBA.out 1
  have z2 := free_of HBA.out 2
  have z3 := free_of HBA.out 3
  have z4 := free_of HBA.out 4
  have z5 := free_of HBA.out 5
  have z6 := free_of HBA.out 6
  have z7 := free_of HBA.out 7
  have z8 := free_of HBA.out 8
  have z9 := free_of HBA.out 9
  have z10 := free_of HBA.out 10
  have z11 := free_of HBA.out 11
  have z12 := free_of HBA.out 12
  have z13 := free_of HBA.out 13
  have z14 := free_of HBA.out 14
  rcases (show K = 0 ∨ K = 1 ∨ K = 2 ∨ K = 3 ∨ K = 4 ∨ K = 5 ∨ K = 6 ∨ K = 7 ∨ K = 8 ∨ K = 9 ∨ K = 10 ∨ K = 11 ∨ K = 13 ∨ K = 12 ∨ K = 14 ∨ K = 15 by omega) with rfl | rfl | rfl | rfl | rfl | rfl | rfl | rfl | rfl | rfl | rfl | rfl | rfl | rfl | rfl | rfl
  · have e1' : (d0 : Int).tmod 16 = 0 := e1
    clear e1
    have he : eventOf [c0, c1, c2, c3] n = ⟨3, (X : Nat), (Y2 : Nat), 0, [], []⟩ := by rw [HEV.out]; rfl
    have HEND : Hid (∀ w7, Mod (· = G) wa w7 → Post (.returned (.agg #[.int .i64 3, .int .i64 (X : Nat), .int .i64 (Y2 : Nat), .int .i64 0, .slice none 0 0, .slice none 0 0, .int .i64 0, .slice none 0 0, .slice none 0 0, .string ⟨#[]⟩, .int .i64 0, .int .i64 0, .int .i64 0, .slice none 0 0, .string ⟨#[]⟩])) w7) := Lib.hid (fun w7 m7 => HPOST.out _ _ ⟨⟨3, (X : Nat), (Y2 : Nat), 0, .slice none 0 0, .slice none 0 0⟩, rfl, by rw [he]; exact ⟨rfl, rfl, rfl, rfl, row_nil _ _, row_nil _ _⟩, (HMA.out).trans m7 (fun k hk h => by have := HG.out; omega)⟩)
    clear he
    go_wp2_with fail
    have h15 := set_cells15 HBA.out (.int .i64 3) (.int .i64 (X : Nat)) (.int .i64 (Y2 : Nat)) (.int .i64 0) (.slice none 0 0) (.slice none 0 0) (.int .i64 0) (.slice none 0 0) (.slice none 0 0) (.string ⟨#[]⟩) (.int .i64 0) (.int .i64 0) (.int .i64 0) (.slice none 0 0) (.string ⟨#[]⟩)
    generalize World.setCell (World.setCell (World.setCell (World.setCell (World.setCell (World.setCell (World.setCell (World.setCell (World.setCell (World.setCell (World.setCell (World.setCell (World.setCell (World.setCell (World.setCell wa _ _) _ _) _ _) _ _) _ _) _ _) _ _) _ _) _ _) _ _) _ _) _ _) _ _) _ _) _ _ = w7 at *
    refine bodyPost_ret (results_cell_row rfl _ _ G 32 #[.int .i64 3, .int .i64 (X : Nat), .int .i64 (Y2 : Nat), .int .i64 0, .slice none 0 0, .slice none 0 0, .int .i64 0, .slice none 0 0, .slice none 0 0, .string ⟨#[]⟩, .int .i64 0, .int .i64 0, .int .i64 0, .slice none 0 0, .string ⟨#[]⟩] (0, 0) _ rfl h15.1 Try.underlying32 rfl (info_size15)) rfl ?_
    exact HEND.out _ h15.2.drew
  · have e1' : (d0 : Int).tmod 16 = 1 := e1
    clear e1
    have he : eventOf [c0, c1, c2, c3] n = ⟨3, (X : Nat), (Y2 : Nat), 0, [], []⟩ := by rw [HEV.out]; rfl
    have HEND : Hid (∀ w7, Mod (· = G) wa w7 → Post (.returned (.agg #[.int .i64 3, .int .i64 (X : Nat), .int .i64 (Y2 : Nat), .int .i64 0, .slice none 0 0, .slice none 0 0, .int .i64 0, .slice none 0 0, .slice none 0 0, .string ⟨#[]⟩, .int .i64 0, .int .i64 0, .int .i64 0, .slice none 0 0, .string ⟨#[]⟩])) w7) := Lib.hid (fun w7 m7 => HPOST.out _ _ ⟨⟨3, (X : Nat), (Y2 : Nat), 0, .slice none 0 0, .slice none 0 0⟩, rfl, by rw [he]; exact ⟨rfl, rfl, rfl, rfl, row_nil _ _, row_nil _ _⟩, (HMA.out).trans m7 (fun k hk h => by have := HG.out; omega)⟩)
    clear he
    go_wp2_with fail
    have h15 := set_cells15 HBA.out (.int .i64 3) (.int .i64 (X : Nat)) (.int .i64 (Y2 : Nat)) (.int .i64 0) (.slice none 0 0) (.slice none 0 0) (.int .i64 0) (.slice none 0 0) (.slice none 0 0) (.string ⟨#[]⟩) (.int .i64 0) (.int .i64 0) (.int .i64 0) (.slice none 0 0) (.string ⟨#[]⟩)
    generalize World.setCell (World.setCell (World.setCell (World.setCell (World.setCell (World.setCell (World.setCell (World.setCell (World.setCell (World.setCell (World.setCell (World.setCell (World.setCell (World.setCell (World.setCell wa _ _) _ _) _ _) _ _) _ _) _ _) _ _) _ _) _ _) _ _) _ _) _ _) _ _) _ _) _ _ = w7 at *
    refine bodyPost_ret (results_cell_row rfl _ _ G 32 #[.int .i64 3, .int .i64 (X : Nat), .int .i64 (Y2 : Nat), .int .i64 0, .slice none 0 0, .slice none 0 0, .int .i64 0, .slice none 0 0, .slice none 0 0, .string ⟨#[]⟩, .int .i64 0, .int .i64 0, .int .i64 0, .slice none 0 0, .string ⟨#[]⟩] (0, 0) _ rfl h15.1 Try.underlying32 rfl (info_size15)) rfl ?_
    exact HEND.out _ h15.2.drew
  · have e1' : (d0 : Int).tmod 16 = 2 := e1
    clear e1
    have he : eventOf [c0, c1, c2, c3] n = ⟨3, (X : Nat), (Y2 : Nat), 0, [], []⟩ := by rw [HEV.out]; rfl
    have HEND : Hid (∀ w7, Mod (· = G) wa w7 → Post (.returned (.agg #[.int .i64 3, .int .i64 (X : Nat), .int .i64 (Y2 : Nat), .int .i64 0, .slice none 0 0, .slice none 0 0, .int .i64 0, .slice none 0 0, .slice none 0 0, .string ⟨#[]⟩, .int .i64 0, .int .i64 0, .int .i64 0, .slice none 0 0, .string ⟨#[]⟩])) w7) := Lib.hid (fun w7 m7 => HPOST.out _ _ ⟨⟨3, (X : Nat), (Y2 : Nat), 0, .slice none 0 0, .slice none 0 0⟩, rfl, by rw [he]; exact ⟨rfl, rfl, rfl, rfl, row_nil _ _, row_nil _ _⟩, (HMA.out).trans m7 (fun k hk h => by have := HG.out; omega)⟩)
    clear he
    go_wp2_with fail
    have h15 := set_cells15 HBA.out (.int .i64 3) (.int .i64 (X : Nat)) (.int .i64 (Y2 : Nat)) (.int .i64 0) (.slice none 0 0) (.slice none 0 0) (.int .i64 0) (.slice none 0 0) (.slice none 0 0) (.string ⟨#[]⟩) (.int .i64 0) (.int .i64 0) (.int .i64 0) (.slice none 0 0) (.string ⟨#[]⟩)
    generalize World.setCell (World.setCell (World.setCell (World.setCell (World.setCell (World.setCell (World.setCell (World.setCell (World.setCell (World.setCell (World.setCell (World.setCell (World.setCell (World.setCell (World.setCell wa _ _) _ _) _ _) _ _) _ _) _ _) _ _) _ _) _ _) _ _) _ _) _ _) _ _) _ _) _ _ = w7 at *
    refine bodyPost_ret (results_cell_row rfl _ _ G 32 #[.int .i64 3, .int .i64 (X : Nat), .int .i64 (Y2 : Nat), .int .i64 0, .slice none 0 0, .slice none 0 0, .int .i64 0, .slice none 0 0, .slice none 0 0, .string ⟨#[]⟩, .int .i64 0, .int .i64 0, .int .i64 0, .slice none 0 0, .string ⟨#[]⟩] (0, 0) _ rfl h15.1 Try.underlying32 rfl (info_size15)) rfl ?_
    exact HEND.out _ h15.2.drew
  · have e1' : (d0 : Int).tmod 16 = 3 := e1
    clear e1
    have he : eventOf [c0, c1, c2, c3] n = ⟨4, 0, 0, (Z8 : Nat), [], []⟩ := by rw [HEV.out]; rfl
    have HEND : Hid (∀ w7, Mod (· = G) wa w7 → Post (.returned (.agg #[.int .i64 4, .int .i64 0, .int .i64 0, .int .i64 (Z8 : Nat), .slice none 0 0, .slice none 0 0, .int .i64 0, .slice none 0 0, .slice none 0 0, .string ⟨#[]⟩, .int .i64 0, .int .i64 0, .int .i64 0, .slice none 0 0, .string ⟨#[]⟩])) w7) := Lib.hid (fun w7 m7 => HPOST.out _ _ ⟨⟨4, 0, 0, (Z8 : Nat), .slice none 0 0, .slice none 0 0⟩, rfl, by rw [he]; exact ⟨rfl, rfl, rfl, rfl, row_nil _ _, row_nil _ _⟩, (HMA.out).trans m7 (fun k hk h => by have := HG.out; omega)⟩)
    clear he
    go_wp2_with fail
    have h15 := set_cells15 HBA.out (.int .i64 4) (.int .i64 0) (.int .i64 0) (.int .i64 (Z8 : Nat)) (.slice none 0 0) (.slice none 0 0) (.int .i64 0) (.slice none 0 0) (.slice none 0 0) (.string ⟨#[]⟩) (.int .i64 0) (.int .i64 0) (.int .i64 0) (.slice none 0 0) (.string ⟨#[]⟩)
    generalize World.setCell (World.setCell (World.setCell (World.setCell (World.setCell (World.setCell (World.setCell (World.setCell (World.setCell (World.setCell (World.setCell (World.setCell (World.setCell (World.setCell (World.setCell wa _ _) _ _) _ _) _ _) _ _) _ _) _ _) _ _) _ _) _ _) _ _) _ _) _ _) _ _) _ _ = w7 at *
    refine bodyPost_ret (results_cell_row rfl _ _ G 32 #[.int .i64 4, .int .i64 0, .int .i64 0, .int .i64 (Z8 : Nat), .slice none 0 0, .slice none 0 0, .int .i64 0, .slice none 0 0, .slice none 0 0, .string ⟨#[]⟩, .int .i64 0, .int .i64 0, .int .i64 0, .slice none 0 0, .string ⟨#[]⟩] (0, 0) _ rfl h15.1 Try.underlying32 rfl (info_size15)) rfl ?_
    exact HEND.out _ h15.2.drew
  · have e1' : (d0 : Int).tmod 16 = 4 := e1
    clear e1
    have he : eventOf [c0, c1, c2, c3] n = ⟨4, 0, 0, (Z8 : Nat), [], []⟩ := by rw [HEV.out]; rfl
    have HEND : Hid (∀ w7, Mod (· = G) wa w7 → Post (.returned (.agg #[.int .i64 4, .int .i64 0, .int .i64 0, .int .i64 (Z8 : Nat), .slice none 0 0, .slice none 0 0, .int .i64 0, .slice none 0 0, .slice none 0 0, .string ⟨#[]⟩, .int .i64 0, .int .i64 0, .int .i64 0, .slice none 0 0, .string ⟨#[]⟩])) w7) := Lib.hid (fun w7 m7 => HPOST.out _ _ ⟨⟨4, 0, 0, (Z8 : Nat), .slice none 0 0, .slice none 0 0⟩, rfl, by rw [he]; exact ⟨rfl, rfl, rfl, rfl, row_nil _ _, row_nil _ _⟩, (HMA.out).trans m7 (fun k hk h => by have := HG.out; omega)⟩)
    clear he
    go_wp2_with fail
    have h15 := set_cells15 HBA.out (.int .i64 4) (.int .i64 0) (.int .i64 0) (.int .i64 (Z8 : Nat)) (.slice none 0 0) (.slice none 0 0) (.int .i64 0) (.slice none 0 0) (.slice none 0 0) (.string ⟨#[]⟩) (.int .i64 0) (.int .i64 0) (.int .i64 0) (.slice none 0 0) (.string ⟨#[]⟩)
    generalize World.setCell (World.setCell (World.setCell (World.setCell (World.setCell (World.setCell (World.setCell (World.setCell (World.setCell (World.setCell (World.setCell (World.setCell (World.setCell (World.setCell (World.setCell wa _ _) _ _) _ _) _ _) _ _) _ _) _ _) _ _) _ _) _ _) _ _) _ _) _ _) _ _) _ _ = w7 at *
    refine bodyPost_ret (results_cell_row rfl _ _ G 32 #[.int .i64 4, .int .i64 0, .int .i64 0, .int .i64 (Z8 : Nat), .slice none 0 0, .slice none 0 0, .int .i64 0, .slice none 0 0, .slice none 0 0, .string ⟨#[]⟩, .int .i64 0, .int .i64 0, .int .i64 0, .slice none 0 0, .string ⟨#[]⟩] (0, 0) _ rfl h15.1 Try.underlying32 rfl (info_size15)) rfl ?_
    exact HEND.out _ h15.2.drew
  · have e1' : (d0 : Int).tmod 16 = 5 := e1
    clear e1
    have he : eventOf [c0, c1, c2, c3] n = ⟨4, 0, 0, (Z8 : Nat), [], []⟩ := by rw [HEV.out]; rfl
    have HEND : Hid (∀ w7, Mod (· = G) wa w7 → Post (.returned (.agg #[.int .i64 4, .int .i64 0, .int .i64 0, .int .i64 (Z8 : Nat), .slice none 0 0, .slice none 0 0, .int .i64 0, .slice none 0 0, .slice none 0 0, .string ⟨#[]⟩, .int .i64 0, .int .i64 0, .int .i64 0, .slice none 0 0, .string ⟨#[]⟩])) w7) := Lib.hid (fun w7 m7 => HPOST.out _ _ ⟨⟨4, 0, 0, (Z8 : Nat), .slice none 0 0, .slice none 0 0⟩, rfl, by rw [he]; exact ⟨rfl, rfl, rfl, rfl, row_nil _ _, row_nil _ _⟩, (HMA.out).trans m7 (fun k hk h => by have := HG.out; omega)⟩)
    clear he
    go_wp2_with fail
    have h15 := set_cells15 HBA.out (.int .i64 4) (.int .i64 0) (.int .i64 0) (.int .i64 (Z8 : Nat)) (.slice none 0 0) (.slice none 0 0) (.int .i64 0) (.slice none 0 0) (.slice none 0 0) (.string ⟨#[]⟩) (.int .i64 0) (.int .i64 0) (.int .i64 0) (.slice none 0 0) (.string ⟨#[]⟩)
    generalize World.setCell (World.setCell (World.setCell (World.setCell (World.setCell (World.setCell (World.setCell (World.setCell (World.setCell (World.setCell (World.setCell (World.setCell (World.setCell (World.setCell (World.setCell wa _ _) _ _) _ _) _ _) _ _) _ _) _ _) _ _) _ _) _ _) _ _) _ _) _ _) _ _) _ _ = w7 at *
    refine bodyPost_ret (results_cell_row rfl _ _ G 32 #[.int .i64 4, .int .i64 0, .int .i64 0, .int .i64 (Z8 : Nat), .slice none 0 0, .slice none 0 0, .int .i64 0, .slice none 0 0, .slice none 0 0, .string ⟨#[]⟩, .int .i64 0, .int .i64 0, .int .i64 0, .slice none 0 0, .string ⟨#[]⟩] (0, 0) _ rfl h15.1 Try.underlying32 rfl (info_size15)) rfl ?_
    exact HEND.out _ h15.2.drew
  · have e1' : (d0 : Int).tmod 16 = 6 := e1
    clear e1
    have he : eventOf [c0, c1, c2, c3] n = ⟨4, 0, 0, (Z8 : Nat), [], []⟩ := by rw [HEV.out]; rfl
    have HEND : Hid (∀ w7, Mod (· = G) wa w7 → Post (.returned (.agg #[.int .i64 4, .int .i64 0, .int .i64 0, .int .i64 (Z8 : Nat), .slice none 0 0, .slice none 0 0, .int .i64 0, .slice none 0 0, .slice none 0 0, .string ⟨#[]⟩, .int .i64 0, .int .i64 0, .int .i64 0, .slice none 0 0, .string ⟨#[]⟩])) w7) := Lib.hid (fun w7 m7 => HPOST.out _ _ ⟨⟨4, 0, 0, (Z8 : Nat), .slice none 0 0, .slice none 0 0⟩, rfl, by rw [he]; exact ⟨rfl, rfl, rfl, rfl, row_nil _ _, row_nil _ _⟩, (HMA.out).trans m7 (fun k hk h => by have := HG.out; omega)⟩)
    clear he
    go_wp2_with fail
    have h15 := set_cells15 HBA.out (.int .i64 4) (.int .i64 0) (.int .i64 0) (.int .i64 (Z8 : Nat)) (.slice none 0 0) (.slice none 0 0) (.int .i64 0) (.slice none 0 0) (.slice none 0 0) (.string ⟨#[]⟩) (.int .i64 0) (.int .i64 0) (.int .i64 0) (.slice none 0 0) (.string ⟨#[]⟩)
    generalize World.setCell (World.setCell (World.setCell (World.setCell (World.setCell (World.setCell (World.setCell (World.setCell (World.setCell (World.setCell (World.setCell (World.setCell (World.setCell (World.setCell (World.setCell wa _ _) _ _) _ _) _ _) _ _) _ _) _ _) _ _) _ _) _ _) _ _) _ _) _ _) _ _) _ _ = w7 at *
    refine bodyPost_ret (results_cell_row rfl _ _ G 32 #[.int .i64 4, .int .i64 0, .int .i64 0, .int .i64 (Z8 : Nat), .slice none 0 0, .slice none 0 0, .int .i64 0, .slice none 0 0, .slice none 0 0, .string ⟨#[]⟩, .int .i64 0, .int .i64 0, .int .i64 0, .slice none 0 0, .string ⟨#[]⟩] (0, 0) _ rfl h15.1 Try.underlying32 rfl (info_size15)) rfl ?_
    exact HEND.out _ h15.2.drew
  · have e1' : (d0 : Int).tmod 16 = 7 := e1
    clear e1
    have he : eventOf [c0, c1, c2, c3] n = ⟨4, 0, 0, (Z8 : Nat), [], []⟩ := by rw [HEV.out]; rfl
    have HEND : Hid (∀ w7, Mod (· = G) wa w7 → Post (.returned (.agg #[.int .i64 4, .int .i64 0, .int .i64 0, .int .i64 (Z8 : Nat), .slice none 0 0, .slice none 0 0, .int .i64 0, .slice none 0 0, .slice none 0 0, .string ⟨#[]⟩, .int .i64 0, .int .i64 0, .int .i64 0, .slice none 0 0, .string ⟨#[]⟩])) w7) := Lib.hid (fun w7 m7 => HPOST.out _ _ ⟨⟨4, 0, 0, (Z8 : Nat), .slice none 0 0, .slice none 0 0⟩, rfl, by rw [he]; exact ⟨rfl, rfl, rfl, rfl, row_nil _ _, row_nil _ _⟩, (HMA.out).trans m7 (fun k hk h => by have := HG.out; omega)⟩)
    clear he
    go_wp2_with fail
    have h15 := set_cells15 HBA.out (.int .i64 4) (.int .i64 0) (.int .i64 0) (.int .i64 (Z8 : Nat)) (.slice none 0 0) (.slice none 0 0) (.int .i64 0) (.slice none 0 0) (.slice none 0 0) (.string ⟨#[]⟩) (.int .i64 0) (.int .i64 0) (.int .i64 0) (.slice none 0 0) (.string ⟨#[]⟩)
    generalize World.setCell (World.setCell (World.setCell (World.setCell (World.setCell (World.setCell (World.setCell (World.setCell (World.setCell (World.setCell (World.setCell (World.setCell (World.setCell (World.setCell (World.setCell wa _ _) _ _) _ _) _ _) _ _) _ _) _ _) _ _) _ _) _ _) _ _) _ _) _ _) _ _) _ _ = w7 at *
    refine bodyPost_ret (results_cell_row rfl _ _ G 32 #[.int .i64 4, .int .i64 0, .int .i64 0, .int .i64 (Z8 : Nat), .slice none 0 0, .slice none 0 0, .int .i64 0, .slice none 0 0, .slice none 0 0, .string ⟨#[]⟩, .int .i64 0, .int .i64 0, .int .i64 0, .slice none 0 0, .string ⟨#[]⟩] (0, 0) _ rfl h15.1 Try.underlying32 rfl (info_size15)) rfl ?_
    exact HEND.out _ h15.2.drew
  · have e1' : (d0 : Int).tmod 16 = 8 := e1
    clear e1
    have he : eventOf [c0, c1, c2, c3] n = ⟨1, 0, 0, (1 + Z5 : Nat), [], []⟩ := by rw [HEV.out]; rfl
    have HEND : Hid (∀ w7, Mod (· = G) wa w7 → Post (.returned (.agg #[.int .i64 1, .int .i64 0, .int .i64 0, .int .i64 (1 + (Z5 : Int)), .slice none 0 0, .slice none 0 0, .int .i64 0, .slice none 0 0, .slice none 0 0, .string ⟨#[]⟩, .int .i64 0, .int .i64 0, .int .i64 0, .slice none 0 0, .string ⟨#[]⟩])) w7) := Lib.hid (fun w7 m7 => HPOST.out _ _ ⟨⟨1, 0, 0, (1 + (Z5 : Int)), .slice none 0 0, .slice none 0 0⟩, rfl, by rw [he]; exact ⟨rfl, rfl, rfl, rfl, row_nil _ _, row_nil _ _⟩, (HMA.out).trans m7 (fun k hk h => by have := HG.out; omega)⟩)
    clear he
    go_wp2_with fail
    have h15 := set_cells15 HBA.out (.int .i64 1) (.int .i64 0) (.int .i64 0) (.int .i64 (1 + (Z5 : Int))) (.slice none 0 0) (.slice none 0 0) (.int .i64 0) (.slice none 0 0) (.slice none 0 0) (.string ⟨#[]⟩) (.int .i64 0) (.int .i64 0) (.int .i64 0) (.slice none 0 0) (.string ⟨#[]⟩)
    generalize World.setCell (World.setCell (World.setCell (World.setCell (World.setCell (World.setCell (World.setCell (World.setCell (World.setCell (World.setCell (World.setCell (World.setCell (World.setCell (World.setCell (World.setCell wa _ _) _ _) _ _) _ _) _ _) _ _) _ _) _ _) _ _) _ _) _ _) _ _) _ _) _ _) _ _ = w7 at *
    refine bodyPost_ret (results_cell_row rfl _ _ G 32 #[.int .i64 1, .int .i64 0, .int .i64 0, .int .i64 (1 + (Z5 : Int)), .slice none 0 0, .slice none 0 0, .int .i64 0, .slice none 0 0, .slice none 0 0, .string ⟨#[]⟩, .int .i64 0, .int .i64 0, .int .i64 0, .slice none 0 0, .string ⟨#[]⟩] (0, 0) _ rfl h15.1 Try.underlying32 rfl (info_size15)) rfl ?_
    exact HEND.out _ h15.2.drew
  · have e1' : (d0 : Int).tmod 16 = 9 := e1
    clear e1
    have he : eventOf [c0, c1, c2, c3] n = ⟨5, 0, 0, (Z8 : Nat), [], []⟩ := by rw [HEV.out]; rfl
    have HEND : Hid (∀ w7, Mod (· = G) wa w7 → Post (.returned (.agg #[.int .i64 5, .int .i64 0, .int .i64 0, .int .i64 (Z8 : Nat), .slice none 0 0, .slice none 0 0, .int .i64 0, .slice none 0 0, .slice none 0 0, .string ⟨#[]⟩, .int .i64 0, .int .i64 0, .int .i64 0, .slice none 0 0, .string ⟨#[]⟩])) w7) := Lib.hid (fun w7 m7 => HPOST.out _ _ ⟨⟨5, 0, 0, (Z8 : Nat), .slice none 0 0, .slice none 0 0⟩, rfl, by rw [he]; exact ⟨rfl, rfl, rfl, rfl, row_nil _ _, row_nil _ _⟩, (HMA.out).trans m7 (fun k hk h => by have := HG.out; omega)⟩)
    clear he
    go_wp2_with fail
    have h15 := set_cells15 HBA.out (.int .i64 5) (.int .i64 0) (.int .i64 0) (.int .i64 (Z8 : Nat)) (.slice none 0 0) (.slice none 0 0) (.int .i64 0) (.slice none 0 0) (.slice none 0 0) (.string ⟨#[]⟩) (.int .i64 0) (.int .i64 0) (.int .i64 0) (.slice none 0 0) (.string ⟨#[]⟩)
    generalize World.setCell (World.setCell (World.setCell (World.setCell (World.setCell (World.setCell (World.setCell (World.setCell (World.setCell (World.setCell (World.setCell (World.setCell (World.setCell (World.setCell (World.setCell wa _ _) _ _) _ _) _ _) _ _) _ _) _ _) _ _) _ _) _ _) _ _) _ _) _ _) _ _) _ _ = w7 at *
    refine bodyPost_ret (results_cell_row rfl _ _ G 32 #[.int .i64 5, .int .i64 0, .int .i64 0, .int .i64 (Z8 : Nat), .slice none 0 0, .slice none 0 0, .int .i64 0, .slice none 0 0, .slice none 0 0, .string ⟨#[]⟩, .int .i64 0, .int .i64 0, .int .i64 0, .slice none 0 0, .string ⟨#[]⟩] (0, 0) _ rfl h15.1 Try.underlying32 rfl (info_size15)) rfl ?_
    exact HEND.out _ h15.2.drew
  · have e1' : (d0 : Int).tmod 16 = 10 := e1
    clear e1
    have he : eventOf [c0, c1, c2, c3] n = ⟨6, 0, 0, (Z8 : Nat), [], []⟩ := by rw [HEV.out]; rfl
    have HEND : Hid (∀ w7, Mod (· = G) wa w7 → Post (.returned (.agg #[.int .i64 6, .int .i64 0, .int .i64 0, .int .i64 (Z8 : Nat), .slice none 0 0, .slice none 0 0, .int .i64 0, .slice none 0 0, .slice none 0 0, .string ⟨#[]⟩, .int .i64 0, .int .i64 0, .int .i64 0, .slice none 0 0, .string ⟨#[]⟩])) w7) := Lib.hid (fun w7 m7 => HPOST.out _ _ ⟨⟨6, 0, 0, (Z8 : Nat), .slice none 0 0, .slice none 0 0⟩, rfl, by rw [he]; exact ⟨rfl, rfl, rfl, rfl, row_nil _ _, row_nil _ _⟩, (HMA.out).trans m7 (fun k hk h => by have := HG.out; omega)⟩)
    clear he
    go_wp2_with fail
    have h15 := set_cells15 HBA.out (.int .i64 6) (.int .i64 0) (.int .i64 0) (.int .i64 (Z8 : Nat)) (.slice none 0 0) (.slice none 0 0) (.int .i64 0) (.slice none 0 0) (.slice none 0 0) (.string ⟨#[]⟩) (.int .i64 0) (.int .i64 0) (.int .i64 0) (.slice none 0 0) (.string ⟨#[]⟩)
    generalize World.setCell (World.setCell (World.setCell (World.setCell (World.setCell (World.setCell (World.setCell (World.setCell (World.setCell (World.setCell (World.setCell (World.setCell (World.setCell (World.setCell (World.setCell wa _ _) _ _) _ _) _ _) _ _) _ _) _ _) _ _) _ _) _ _) _ _) _ _) _ _) _ _) _ _ = w7 at *
    refine bodyPost_ret (results_cell_row rfl _ _ G 32 #[.int .i64 6, .int .i64 0, .int .i64 0, .int .i64 (Z8 : Nat), .slice none 0 0, .slice none 0 0, .int .i64 0, .slice none 0 0, .slice none 0 0, .string ⟨#[]⟩, .int .i64 0, .int .i64 0, .int .i64 0, .slice none 0 0, .string ⟨#[]⟩] (0, 0) _ rfl h15.1 Try.underlying32 rfl (info_size15)) rfl ?_
    exact HEND.out _ h15.2.drew
  · have e1' : (d0 : Int).tmod 16 = 11 := e1
    clear e1
    have he : eventOf [c0, c1, c2, c3] n = ⟨2, (Wh : Nat), 0, (Y7 : Nat) - 3, [], []⟩ := by rw [HEV.out]; rfl
    have HEND : Hid (∀ w7, Mod (· = G) wa w7 → Post (.returned (.agg #[.int .i64 2, .int .i64 (Wh : Nat), .int .i64 0, .int .i64 ((Y7 : Int) - 3), .slice none 0 0, .slice none 0 0, .int .i64 0, .slice none 0 0, .slice none 0 0, .string ⟨#[]⟩, .int .i64 0, .int .i64 0, .int .i64 0, .slice none 0 0, .string ⟨#[]⟩])) w7) := Lib.hid (fun w7 m7 => HPOST.out _ _ ⟨⟨2, (Wh : Nat), 0, ((Y7 : Int) - 3), .slice none 0 0, .slice none 0 0⟩, rfl, by rw [he]; exact ⟨rfl, rfl, rfl, rfl, row_nil _ _, row_nil _ _⟩, (HMA.out).trans m7 (fun k hk h => by have := HG.out; omega)⟩)
    clear he
    go_wp2_with fail
    have h15 := set_cells15 HBA.out (.int .i64 2) (.int .i64 (Wh : Nat)) (.int .i64 0) (.int .i64 ((Y7 : Int) - 3)) (.slice none 0 0) (.slice none 0 0) (.int .i64 0) (.slice none 0 0) (.slice none 0 0) (.string ⟨#[]⟩) (.int .i64 0) (.int .i64 0) (.int .i64 0) (.slice none 0 0) (.string ⟨#[]⟩)
    generalize World.setCell (World.setCell (World.setCell (World.setCell (World.setCell (World.setCell (World.setCell (World.setCell (World.setCell (World.setCell (World.setCell (World.setCell (World.setCell (World.setCell (World.setCell wa _ _) _ _) _ _) _ _) _ _) _ _) _ _) _ _) _ _) _ _) _ _) _ _) _ _) _ _) _ _ = w7 at *
    refine bodyPost_ret (results_cell_row rfl _ _ G 32 #[.int .i64 2, .int .i64 (Wh : Nat), .int .i64 0, .int .i64 ((Y7 : Int) - 3), .slice none 0 0, .slice none 0 0, .int .i64 0, .slice none 0 0, .slice none 0 0, .string ⟨#[]⟩, .int .i64 0, .int .i64 0, .int .i64 0, .slice none 0 0, .string ⟨#[]⟩] (0, 0) _ rfl h15.1 Try.underlying32 rfl (info_size15)) rfl ?_
    exact HEND.out _ h15.2.drew
  · have e1' : (d0 : Int).tmod 16 = 13 := e1
    clear e1
    have he : eventOf [c0, c1, c2, c3] n = ⟨9, (Wh : Nat), 0, (Z12 : Nat), [], []⟩ := by rw [HEV.out]; rfl
    have HEND : Hid (∀ w7, Mod (· = G) wa w7 → Post (.returned (.agg #[.int .i64 9, .int .i64 (Wh : Nat), .int .i64 0, .int .i64 (Z12 : Nat), .slice none 0 0, .slice none 0 0, .int .i64 0, .slice none 0 0, .slice none 0 0, .string ⟨#[]⟩, .int .i64 0, .int .i64 0, .int .i64 0, .slice none 0 0, .string ⟨#[]⟩])) w7) := Lib.hid (fun w7 m7 => HPOST.out _ _ ⟨⟨9, (Wh : Nat), 0, (Z12 : Nat), .slice none 0 0, .slice none 0 0⟩, rfl, by rw [he]; exact ⟨rfl, rfl, rfl, rfl, row_nil _ _, row_nil _ _⟩, (HMA.out).trans m7 (fun k hk h => by have := HG.out; omega)⟩)
    clear he
    go_wp2_with fail
    have h15 := set_cells15 HBA.out (.int .i64 9) (.int .i64 (Wh : Nat)) (.int .i64 0) (.int .i64 (Z12 : Nat)) (.slice none 0 0) (.slice none 0 0) (.int .i64 0) (.slice none 0 0) (.slice none 0 0) (.string ⟨#[]⟩) (.int .i64 0) (.int .i64 0) (.int .i64 0) (.slice none 0 0) (.string ⟨#[]⟩)
    generalize World.setCell (World.setCell (World.setCell (World.setCell (World.setCell (World.setCell (World.setCell (World.setCell (World.setCell (World.setCell (World.setCell (World.setCell (World.setCell (World.setCell (World.setCell wa _ _) _ _) _ _) _ _) _ _) _ _) _ _) _ _) _ _) _ _) _ _) _ _) _ _) _ _) _ _ = w7 at *
    refine bodyPost_ret (results_cell_row rfl _ _ G 32 #[.int .i64 9, .int .i64 (Wh : Nat), .int .i64 0, .int .i64 (Z12 : Nat), .slice none 0 0, .slice none 0 0, .int .i64 0, .slice none 0 0, .slice none 0 0, .string ⟨#[]⟩, .int .i64 0, .int .i64 0, .int .i64 0, .slice none 0 0, .string ⟨#[]⟩] (0, 0) _ rfl h15.1 Try.underlying32 rfl (info_size15)) rfl ?_
    exact HEND.out _ h15.2.drew
  · have e1' : (d0 : Int).tmod 16 = 12 := e1
    clear e1
    go_wp2_with fail
    clear s0 z0 s1 z1 s2 z2 s3 z3 s4 z4 s5 z5 s6 z6 s7 z7 s8 z8 s9 z9 s10 z10 s11 z11 s12 z12 s13 z13 s14 z14
    refine (taleKeep d2 hb2 wa.drew).mono ?_
    rintro e wB ⟨vk, rfl, hvk, hmB⟩
    obtain ⟨pk, qk, rfl⟩ := hvk.form
    have HVK : Hid (IsVec (fun k => wa.heap.size ≤ k) wB 4 1 (.slice pk 8 qk) 8 (bools (bitsTo d2 8))) := Lib.hid hvk
    have HMB : Hid (Mod nil wa wB) := Lib.hid (((Mod.refl _ _).drew).thenNil hmB)
    have HBB := Lib.hid (HMB.out.keep HBA.out)
    have hGa : G < wa.heap.size := heap_lt HBA.out
    clear hvk hmB
    have s0 := cell_of HBB.out 0
    have z0 := free_of HBB.out 0
    have s1 := cell_of HBB.out 1
    have z1 := free_of HBB.out 1
    have s2 := cell_of HBB.out 2
    have z2 := free_of HBB.out 2
    have s3 := cell_of HBB.out 3
    have z3 := free_of HBB.out 3
    have s4 := cell_of HBB.out 4
    have z4 := free_of HBB.out 4
    have s5 := cell_of HBB.out 5
    have z5 := free_of HBB.out 5
    have s6 := cell_of HBB.out 6
    have z6 := free_of HBB.out 6
    have s7 := cell_of HBB.out 7
    have z7 := free_of HBB.out 7
    have s8 := cell_of HBB.out 8
    have z8 := free_of HBB.out 8
    have s9 := cell_of HBB.out 9
    have z9 := free_of HBB.out 9
    have s10 := cell_of HBB.out 10
    have z10 := free_of HBB.out 10
    have s11 := cell_of HBB.out 11
    have z11 := free_of HBB.out 11
    have s12 := cell_of HBB.out 12
    have z12 := free_of HBB.out 12
    have s13 := cell_of HBB.out 13
    have z13 := free_of HBB.out 13
    have s14 := cell_of HBB.out 14
    have z14 := free_of HBB.out 14
    simp only [List.getElem?_toArray, List.getElem?_cons_zero, List.getElem?_cons_succ] at s0 s1 s2 s3 s4 s5 s6 s7 s8 s9 s10 s11 s12 s13 s14
    have he : eventOf [c0, c1, c2, c3] n = ⟨8, (Wh : Nat), 0, 0, [], bitsTo d2 8⟩ := by rw [HEV.out]; rfl
    have HEND : Hid (∀ w7, Mod (· = G) wB w7 → Post (.returned (.agg #[.int .i64 8, .int .i64 (Wh : Nat), .int .i64 0, .int .i64 0, .slice none 0 0, .slice pk 8 qk, .int .i64 0, .slice none 0 0, .slice none 0 0, .string ⟨#[]⟩, .int .i64 0, .int .i64 0, .int .i64 0, .slice none 0 0, .string ⟨#[]⟩])) w7) := Lib.hid (fun w7 m7 => HPOST.out _ _ ⟨⟨8, (Wh : Nat), 0, 0, .slice none 0 0, .slice pk 8 qk⟩, rfl, by rw [he]; exact ⟨rfl, rfl, rfl, rfl, row_nil _ _, ((HVK.out.row).mod m7 (fun k _ hk he => by omega)).mono (fun k _ hk => by omega)⟩, (HMA.out.thenNil HMB.out).trans m7 (fun k hk h => by have := HG.out; omega)⟩)
    clear he
    go_wp2_with fail
    have h15 := set_cells15 HBB.out (.int .i64 8) (.int .i64 (Wh : Nat)) (.int .i64 0) (.int .i64 0) (.slice none 0 0) (.slice pk 8 qk) (.int .i64 0) (.slice none 0 0) (.slice none 0 0) (.string ⟨#[]⟩) (.int .i64 0) (.int .i64 0) (.int .i64 0) (.slice none 0 0) (.string ⟨#[]⟩)
    generalize World.setCell (World.setCell (World.setCell (World.setCell (World.setCell (World.setCell (World.setCell (World.setCell (World.setCell (World.setCell (World.setCell (World.setCell (World.setCell (World.setCell (World.setCell wB _ _) _ _) _ _) _ _) _ _) _ _) _ _) _ _) _ _) _ _) _ _) _ _) _ _) _ _) _ _ = w7 at *
    refine bodyPost_ret (results_cell_row rfl _ _ G 32 #[.int .i64 8, .int .i64 (Wh : Nat), .int .i64 0, .int .i64 0, .slice none 0 0, .slice pk 8 qk, .int .i64 0, .slice none 0 0, .slice none 0 0, .string ⟨#[]⟩, .int .i64 0, .int .i64 0, .int .i64 0, .slice none 0 0, .string ⟨#[]⟩] (0, 0) _ rfl h15.1 Try.underlying32 rfl (info_size15)) rfl ?_
    exact HEND.out _ h15.2
  · have e1' : (d0 : Int).tmod 16 = 14 := e1
    clear e1
    have HROW3 : Hid (IsRow (fun _ => True) wa (.slice (some ⟨g, o + 1, none⟩) 3 (cap - 1)) (bys [c1, c2, c3])) := Lib.hid (by
      refine ⟨_, cap - 1, rfl, fun i hi => ⟨g, o + 1, rfl, trivial, World.block_lt_of_cell? _ _ k1, ?_⟩⟩
      rcases (show i = 0 ∨ i = 1 ∨ i = 2 by simp [bys] at hi; omega) with rfl | rfl | rfl
      · rw [Nat.add_zero, k1, ← hd1]; rfl
      · rw [show o + 1 + 1 = o + 2 by omega, k2, ← hd2]; rfl
      · rw [show o + 1 + 2 = o + 3 by omega, k3, ← hd3]; rfl)
    go_wp2_with fail
    clear s0 z0 s1 z1 s2 z2 s3 z3 s4 z4 s5 z5 s6 z6 s7 z7 s8 z8 s9 z9 s10 z10 s11 z11 s12 z12 s13 z13 s14 z14
    refine (cloneBytes (fun _ => True) _ [c1, c2, c3] wa.drew (HROW3.out.modNil ((Mod.refl _ _).drew)) (by simp)).mono ?_
    rintro e wB ⟨vk, rfl, hvk, hmB⟩
    obtain ⟨pk, qk, rfl⟩ := hvk.form
    have HVK : Hid (IsVec (fun k => wa.heap.size ≤ k) wB 5 1 (.slice pk 3 qk) 3 (bys [c1, c2, c3])) := Lib.hid hvk
    have HMB : Hid (Mod nil wa wB) := Lib.hid (((Mod.refl _ _).drew).thenNil hmB)
    have HBB := Lib.hid (HMB.out.keep HBA.out)
    have hGa : G < wa.heap.size := heap_lt HBA.out
    clear hvk hmB
    have s0 := cell_of HBB.out 0
    have z0 := free_of HBB.out 0
    have s1 := cell_of HBB.out 1
    have z1 := free_of HBB.out 1
    have s2 := cell_of HBB.out 2
    have z2 := free_of HBB.out 2
    have s3 := cell_of HBB.out 3
    have z3 := free_of HBB.out 3
    have s4 := cell_of HBB.out 4
    have z4 := free_of HBB.out 4
    have s5 := cell_of HBB.out 5
    have z5 := free_of HBB.out 5
    have s6 := cell_of HBB.out 6
    have z6 := free_of HBB.out 6
    have s7 := cell_of HBB.out 7
    have z7 := free_of HBB.out 7
    have s8 := cell_of HBB.out 8
    have z8 := free_of HBB.out 8
    have s9 := cell_of HBB.out 9
    have z9 := free_of HBB.out 9
    have s10 := cell_of HBB.out 10
    have z10 := free_of HBB.out 10
    have s11 := cell_of HBB.out 11
    have z11 := free_of HBB.out 11
    have s12 := cell_of HBB.out 12
    have z12 := free_of HBB.out 12
    have s13 := cell_of HBB.out 13
    have z13 := free_of HBB.out 13
    have s14 := cell_of HBB.out 14
    have z14 := free_of HBB.out 14
    simp only [List.getElem?_toArray, List.getElem?_cons_zero, List.getElem?_cons_succ] at s0 s1 s2 s3 s4 s5 s6 s7 s8 s9 s10 s11 s12 s13 s14
    have he : eventOf [c0, c1, c2, c3] n = ⟨7, (Wh : Nat), 0, 0, [c1, c2, c3], []⟩ := by rw [HEV.out]; rfl
    have HEND : Hid (∀ w7, Mod (· = G) wB w7 → Post (.returned (.agg #[.int .i64 7, .int .i64 (Wh : Nat), .int .i64 0, .int .i64 0, .slice pk 3 qk, .slice none 0 0, .int .i64 0, .slice none 0 0, .slice none 0 0, .string ⟨#[]⟩, .int .i64 0, .int .i64 0, .int .i64 0, .slice none 0 0, .string ⟨#[]⟩])) w7) := Lib.hid (fun w7 m7 => HPOST.out _ _ ⟨⟨7, (Wh : Nat), 0, 0, .slice pk 3 qk, .slice none 0 0⟩, rfl, by rw [he]; exact ⟨rfl, rfl, rfl, rfl, ((HVK.out.row).mod m7 (fun k _ hk he => by omega)).mono (fun k _ hk => by omega), row_nil _ _⟩, (HMA.out.thenNil HMB.out).trans m7 (fun k hk h => by have := HG.out; omega)⟩)
    clear he
    go_wp2_with fail
    have h15 := set_cells15 HBB.out (.int .i64 7) (.int .i64 (Wh : Nat)) (.int .i64 0) (.int .i64 0) (.slice pk 3 qk) (.slice none 0 0) (.int .i64 0) (.slice none 0 0) (.slice none 0 0) (.string ⟨#[]⟩) (.int .i64 0) (.int .i64 0) (.int .i64 0) (.slice none 0 0) (.string ⟨#[]⟩)
    generalize World.setCell (World.setCell (World.setCell (World.setCell (World.setCell (World.setCell (World.setCell (World.setCell (World.setCell (World.setCell (World.setCell (World.setCell (World.setCell (World.setCell (World.setCell wB _ _) _ _) _ _) _ _) _ _) _ _) _ _) _ _) _ _) _ _) _ _) _ _) _ _) _ _) _ _ = w7 at *
    refine bodyPost_ret (results_cell_row rfl _ _ G 32 #[.int .i64 7, .int .i64 (Wh : Nat), .int .i64 0, .int .i64 0, .slice pk 3 qk, .slice none 0 0, .int .i64 0, .slice none 0 0, .slice none 0 0, .string ⟨#[]⟩, .int .i64 0, .int .i64 0, .int .i64 0, .slice none 0 0, .string ⟨#[]⟩] (0, 0) _ rfl h15.1 Try.underlying32 rfl (info_size15)) rfl ?_
    exact HEND.out _ h15.2
  · have e1' : (d0 : Int).tmod 16 = 15 := e1
    clear e1
    go_upto_region 28 with (fail)
    clear s0 z0 s1 z1 s2 z2 s3 z3 s4 z4 s5 z5 s6 z6 s7 z7 s8 z8 s9 z9 s10 z10 s11 z11 s12 z12 s13 z13 s14 z14
    obtain ⟨i0, hi0, hz0, hz1, hz2⟩ := info_parts info_u8
    have HMK : Hid (∀ W : World, (Instr.makeSlice 22 (.int .i64 3) (.int .i64 3)).run Try.prog W = .ok (.slice (some ⟨W.heap.size, 0, none⟩) 3 3) (W.alloc (.cells #[.int .u8 0, .int .u8 0, .int .u8 0] 5))) := Lib.hid (fun W => run_make_one 22 5 i0 (.int .u8 0) 1 Try.underlying22 hi0 hz0 hz1 hz2 rfl 3 (by omega) (by unfold maxLen; omega) W)
    clear hi0 hz0 hz1 hz2
    refine wp_region_held_drew (S := fun _ => True) (by kernel_rfl) (trivial) (fun hHeld => ?_)
    refine wpAnyH_take (i := 0) (v := ?_) rfl (by kernel_rfl) (by kernel_rfl) (by kernel_rfl) (fun _ _ _ h => h) (Or.inl ⟨by kernel_rfl, ?_⟩) (by assumption) ?_
    rotate_left
    · intro w hSw; (try dsimp only at hSw); (first | (go_simp; done) | (go_simp; with_reducible rfl))
    (try simp only [Act.put, List.getElem_toArray, List.getElem_cons_succ, List.getElem_cons_zero, List.setIfInBounds_toArray, List.set_cons_succ, List.set_cons_zero])
    refine wpAnyH_take (i := 1) (v := ?_) rfl (by kernel_rfl) (by kernel_rfl) (by kernel_rfl) (fun _ _ _ h => h) (Or.inl ⟨by kernel_rfl, ?_⟩) (by assumption) ?_
    rotate_left
    · intro w hSw; (try dsimp only at hSw); (first | (go_simp; done) | (go_simp; with_reducible rfl))
    (try simp only [Act.put, List.getElem_toArray, List.getElem_cons_succ, List.getElem_cons_zero, List.setIfInBounds_toArray, List.set_cons_succ, List.set_cons_zero])
    refine wpAnyH_take (i := 2) (v := ?_) rfl (by kernel_rfl) (by kernel_rfl) (by kernel_rfl) (fun _ _ _ h => h) (Or.inl ⟨by kernel_rfl, ?_⟩) (by assumption) ?_
    rotate_left
    · intro w hSw; (try dsimp only at hSw); (first | (go_simp; done) | (go_simp; with_reducible rfl))
    (try simp only [Act.put, List.getElem_toArray, List.getElem_cons_succ, List.getElem_cons_zero, List.setIfInBounds_toArray, List.set_cons_succ, List.set_cons_zero])
    refine wpAnyH_take (i := 3) (v := ?_) rfl (by kernel_rfl) (by kernel_rfl) (by kernel_rfl) (fun _ _ _ h => h) (Or.inl ⟨by kernel_rfl, ?_⟩) (by assumption) ?_
    rotate_left
    · intro w hSw; (try dsimp only at hSw); (first | (go_simp; done) | (go_simp; with_reducible rfl))
    (try simp only [Act.put, List.getElem_toArray, List.getElem_cons_succ, List.getElem_cons_zero, List.setIfInBounds_toArray, List.set_cons_succ, List.set_cons_zero])
    refine wpAnyH_take (i := 4) (v := ?_) rfl (by kernel_rfl) (by kernel_rfl) (by kernel_rfl) (fun _ _ _ h => h) (Or.inl ⟨by kernel_rfl, ?_⟩) (by assumption) ?_
    rotate_left
    · intro w hSw; (try dsimp only at hSw); (first | (go_simp; done) | (go_simp; with_reducible rfl))
    (try simp only [Act.put, List.getElem_toArray, List.getElem_cons_succ, List.getElem_cons_zero, List.setIfInBounds_toArray, List.set_cons_succ, List.set_cons_zero])
    refine wpAnyH_take (i := 5) (v := ?_) rfl (by kernel_rfl) (by kernel_rfl) (by kernel_rfl) (fun _ _ _ h => h) (Or.inl ⟨by kernel_rfl, ?_⟩) (by assumption) ?_
    rotate_left
    · intro w hSw; (try dsimp only at hSw); (first | (go_simp; done) | (go_simp; with_reducible rfl))
    (try simp only [Act.put, List.getElem_toArray, List.getElem_cons_succ, List.getElem_cons_zero, List.setIfInBounds_toArray, List.set_cons_succ, List.set_cons_zero])
    refine wpAnyH_take (i := 6) (v := ?_) rfl (by kernel_rfl) (by kernel_rfl) (by kernel_rfl) (fun _ _ _ h => h) (Or.inl ⟨by kernel_rfl, ?_⟩) (by assumption) ?_
    rotate_left
    · intro w hSw; (try dsimp only at hSw); (first | (go_simp; done) | (go_simp; with_reducible rfl))
    (try simp only [Act.put, List.getElem_toArray, List.getElem_cons_succ, List.getElem_cons_zero, List.setIfInBounds_toArray, List.set_cons_succ, List.set_cons_zero])
    refine wpAnyH_take (i := 7) (v := ?_) rfl (by kernel_rfl) (by kernel_rfl) (by kernel_rfl) (fun _ _ _ h => h) (Or.inl ⟨by kernel_rfl, ?_⟩) (by assumption) ?_
    rotate_left
    · intro w hSw; (try dsimp only at hSw); (first | (go_simp; done) | (go_simp; with_reducible rfl))
    (try simp only [Act.put, List.getElem_toArray, List.getElem_cons_succ, List.getElem_cons_zero, List.setIfInBounds_toArray, List.set_cons_succ, List.set_cons_zero])
    obtain ⟨gm, hgm⟩ : ∃ gm, wa.heap.size = gm := ⟨_, rfl⟩
    have hmk := HMK.out wa.drew.drew
    have HMM : Hid (Mod nil wa ((wa.alloc (.cells #[.int .u8 0, .int .u8 0, .int .u8 0] 5)).drew.drew)) := Lib.hid ((((Mod.refl nil wa).alloc _).drew).drew)
    have HBM : Hid (((wa.alloc (.cells #[.int .u8 0, .int .u8 0, .int .u8 0] 5)).drew.drew).heap[gm]? = some (.cells #[.int .u8 0, .int .u8 0, .int .u8 0] 5 (0, 0))) := Lib.hid (by rw [← hgm]; exact heap_alloc_new wa _)
    have hGa : G < gm := by have := heap_lt HBA.out; omega
    refine wpAnyH_ready (rs := [8]) (by kernel_rfl) (by simp) ?_
    refine AllReadyH.cons (i := 8) rfl (fun K hK => ?_) AllReadyH.nil
    (try dsimp (config := { proj := false }) only [List.getElem_toArray, List.getElem_cons_succ, List.getElem_cons_zero])
    go_simp
    refine hK.out _ _ trivial (fun hHeld => ?_)
    clear hK K
    (try simp only [Act.put, List.setIfInBounds_toArray, List.set_cons_zero, List.set_cons_succ])
    (try simp only [List.set_cons_succ, List.set_cons_zero])
    generalize World.drew (World.drew (World.alloc wa _)) = wm at *
    have HBB := Lib.hid (HMM.out.keep HBA.out)
    clear hgm hmk
    have s0 := cell_of HBB.out 0
    have z0 := free_of HBB.out 0
    have s1 := cell_of HBB.out 1
    have z1 := free_of HBB.out 1
    have s2 := cell_of HBB.out 2
    have z2 := free_of HBB.out 2
    have s3 := cell_of HBB.out 3
    have z3 := free_of HBB.out 3
    have s4 := cell_of HBB.out 4
    have z4 := free_of HBB.out 4
    have s5 := cell_of HBB.out 5
    have z5 := free_of HBB.out 5
    have s6 := cell_of HBB.out 6
    have z6 := free_of HBB.out 6
    have s7 := cell_of HBB.out 7
    have z7 := free_of HBB.out 7
    have s8 := cell_of HBB.out 8
    have z8 := free_of HBB.out 8
    have s9 := cell_of HBB.out 9
    have z9 := free_of HBB.out 9
    have s10 := cell_of HBB.out 10
    have z10 := free_of HBB.out 10
    have s11 := cell_of HBB.out 11
    have z11 := free_of HBB.out 11
    have s12 := cell_of HBB.out 12
    have z12 := free_of HBB.out 12
    have s13 := cell_of HBB.out 13
    have z13 := free_of HBB.out 13
    have s14 := cell_of HBB.out 14
    have z14 := free_of HBB.out 14
    simp only [List.getElem?_toArray, List.getElem?_cons_zero, List.getElem?_cons_succ] at s0 s1 s2 s3 s4 s5 s6 s7 s8 s9 s10 s11 s12 s13 s14
    have he : eventOf [c0, c1, c2, c3] n = ⟨11, (X : Nat), (Y2 : Nat), (1 + Z4 : Nat), [0, 0, 0], []⟩ := by rw [HEV.out]; rfl
    have HEND : Hid (∀ w7, Mod (· = G) wm w7 → Post (.returned (.agg #[.int .i64 11, .int .i64 (X : Nat), .int .i64 (Y2 : Nat), .int .i64 (1 + (Z4 : Int)), .slice (some ⟨gm, 0, none⟩) 3 3, .slice none 0 0, .int .i64 0, .slice none 0 0, .slice none 0 0, .string ⟨#[]⟩, .int .i64 0, .int .i64 0, .int .i64 0, .slice none 0 0, .string ⟨#[]⟩])) w7) := Lib.hid (fun w7 m7 => HPOST.out _ _ ⟨⟨11, (X : Nat), (Y2 : Nat), (1 + (Z4 : Int)), .slice (some ⟨gm, 0, none⟩) 3 3, .slice none 0 0⟩, rfl, by rw [he]; exact ⟨rfl, rfl, rfl, rfl, (IsRow.ofBlock (S := fun k => k = gm) HBM.out rfl 3 3 rfl |>.mod m7 (fun k _ hk he => by omega)).mono (fun k _ hk => by omega), row_nil _ _⟩, (HMA.out.thenNil HMM.out).trans m7 (fun k hk h => by have := HG.out; omega)⟩)
    clear he
    refine wpAnyH_take (i := 9) (v := ?_) rfl (by kernel_rfl) (by kernel_rfl) (by kernel_rfl) (fun _ _ _ h => h) (Or.inl ⟨by kernel_rfl, ?_⟩) (by assumption) ?_
    rotate_left
    · intro w hSw; (try dsimp only at hSw); (first | (go_simp; done) | (go_simp; with_reducible rfl))
    (try simp only [Act.put, List.getElem_toArray, List.getElem_cons_succ, List.getElem_cons_zero, List.setIfInBounds_toArray, List.set_cons_succ, List.set_cons_zero])
    refine wpAnyH_ready (rs := [10]) (by kernel_rfl) (by simp) ?_
    refine AllReadyH.cons (i := 10) rfl (fun K hK => ?_) AllReadyH.nil
    (try dsimp (config := { proj := false }) only [List.getElem_toArray, List.getElem_cons_succ, List.getElem_cons_zero])
    go_simp
    refine hK.out _ _ trivial (fun hHeld => ?_)
    clear hK K
    (try simp only [Act.put, List.setIfInBounds_toArray, List.set_cons_zero, List.set_cons_succ])
    (try simp only [List.set_cons_succ, List.set_cons_zero])
    refine wpAnyH_done (by kernel_rfl) ?_ _
    go_wp2_with fail
    have h15 := set_cells15 HBB.out (.int .i64 11) (.int .i64 (X : Nat)) (.int .i64 (Y2 : Nat)) (.int .i64 (1 + (Z4 : Int))) (.slice (some ⟨gm, 0, none⟩) 3 3) (.slice none 0 0) (.int .i64 0) (.slice none 0 0) (.slice none 0 0) (.string ⟨#[]⟩) (.int .i64 0) (.int .i64 0) (.int .i64 0) (.slice none 0 0) (.string ⟨#[]⟩)
    generalize World.setCell (World.setCell (World.setCell (World.setCell (World.setCell (World.setCell (World.setCell (World.setCell (World.setCell (World.setCell (World.setCell (World.setCell (World.setCell (World.setCell (World.setCell wm _ _) _ _) _ _) _ _) _ _) _ _) _ _) _ _) _ _) _ _) _ _) _ _) _ _) _ _) _ _ = w7 at *
    refine bodyPost_ret (results_cell_row rfl _ _ G 32 #[.int .i64 11, .int .i64 (X : Nat), .int .i64 (Y2 : Nat), .int .i64 (1 + (Z4 : Int)), .slice (some ⟨gm, 0, none⟩) 3 3, .slice none 0 0, .int .i64 0, .slice none 0 0, .slice none 0 0, .string ⟨#[]⟩, .int .i64 0, .int .i64 0, .int .i64 0, .slice none 0 0, .string ⟨#[]⟩] (0, 0) _ rfl h15.1 Try.underlying32 rfl (info_size15)) rfl ?_
    exact HEND.out _ h15.2
end Go.Proofs.Ytlkhihdgaimboaa

/- cflref1.block: a block of 64 bytes is taken as the plain law says. (Printed by gen_refshab.py.) -/
import Derived.Test.YtjilbnpehgigjaaGreatShort
import Derived.Test.YtjilbnpehgigjaaGreatFrame
namespace Go.Proofs.YtjilbnpehgigjaaGreat
open Go.RowKit

theorem refTurnQ (x : BitVec 32) (n : Int) (h0 : 0 < n) (h1 : n < 32) (w : World) : Calls Tryz.prog 106 #[.int .u32 (u x), .int .u64 n] w fun e w' => e = .returned (.int .u32 (u (ror x n.toNat))) ∧ w' = w :=
  (refTurn x n h0 h1 w).mono fun _ _ h => ⟨h.1, h.2.symm⟩
theorem word4 (a b c d : BitVec 32) : a <<< 24 ||| b <<< 16 ||| c <<< 8 ||| d = (((a <<< 8 ||| b) <<< 8 ||| c) <<< 8 ||| d) := by
  simp only [BitVec.shiftLeft_or_distrib, ← BitVec.shiftLeft_add]
theorem wordOf4 (a b c d : UInt8) : wordOf [a, b, c, d] = w8 a <<< 24 ||| w8 b <<< 16 ||| w8 c <<< 8 ||| w8 d := by
  rw [word4]
  show (((0#32 <<< 8 ||| w8 a) <<< 8 ||| w8 b) <<< 8 ||| w8 c) <<< 8 ||| w8 d = _
  rw [show (0#32 <<< 8 ||| w8 a) = w8 a by simp]
theorem take4 (b : List UInt8) (i : Nat) (h : i + 4 ≤ b.length) : (b.drop i).take 4 = [b.getD i 0, b.getD (i + 1) 0, b.getD (i + 2) 0, b.getD (i + 3) 0] := by
  apply List.ext_getElem?
  intro k
  match k with
  | 0 => simp [show i < b.length by omega]
  | 1 => simp [show i + 1 < b.length by omega]
  | 2 => simp [show i + 2 < b.length by omega]
  | 3 => simp [show i + 3 < b.length by omega]
  | k + 4 => rw [List.getElem?_eq_none (by simp; omega), List.getElem?_eq_none (by simp)]
theorem schedL_word (b : List UInt8) (i : Nat) (hi : i < 16) (hl : b.length = 64) : wNext (mwords b) (schedTo (mwords b) i) i = w8 (b.getD (4 * i) 0) <<< 24 ||| w8 (b.getD (4 * i + 1) 0) <<< 16 ||| w8 (b.getD (4 * i + 2) 0) <<< 8 ||| w8 (b.getD (4 * i + 3) 0) := by
  unfold wNext
  rw [if_pos hi, mwords_get b i hi, take4 b (4 * i) (by omega), wordOf4]
theorem splice8 (v : V8) : splice (List.replicate 8 (Value.int .u32 0)) 0 (wc v.list) = wc v.list := by simp [splice, wc, V8.list]
theorem set_cells8 {w : World} {g : Nat} {a0 a1 a2 a3 a4 a5 a6 a7 : Value} {T : TypeId} {fr : Nat × Nat} (h : w.heap[g]? = some (.cells #[a0, a1, a2, a3, a4, a5, a6, a7] T fr)) (v0 v1 v2 v3 v4 v5 v6 v7 : Value) :
    ((((((((w.setCell ⟨g, 0, none⟩ v0).setCell ⟨g, 1, none⟩ v1).setCell ⟨g, 2, none⟩ v2).setCell ⟨g, 3, none⟩ v3).setCell ⟨g, 4, none⟩ v4).setCell ⟨g, 5, none⟩ v5).setCell ⟨g, 6, none⟩ v6).setCell ⟨g, 7, none⟩ v7).heap[g]? = some (.cells #[v0, v1, v2, v3, v4, v5, v6, v7] T fr) ∧
    Mod (· = g) w ((((((((w.setCell ⟨g, 0, none⟩ v0).setCell ⟨g, 1, none⟩ v1).setCell ⟨g, 2, none⟩ v2).setCell ⟨g, 3, none⟩ v3).setCell ⟨g, 4, none⟩ v4).setCell ⟨g, 5, none⟩ v5).setCell ⟨g, 6, none⟩ v6).setCell ⟨g, 7, none⟩ v7) := by
  have h1 := heap_setCell_same (off := 0) h v0
  simp only [List.setIfInBounds_toArray, List.set_cons_zero, List.set_cons_succ] at h1
  have h2 := heap_setCell_same (off := 1) h1 v1
  simp only [List.setIfInBounds_toArray, List.set_cons_zero, List.set_cons_succ] at h2
  have h3 := heap_setCell_same (off := 2) h2 v2
  simp only [List.setIfInBounds_toArray, List.set_cons_zero, List.set_cons_succ] at h3
  have h4 := heap_setCell_same (off := 3) h3 v3
  simp only [List.setIfInBounds_toArray, List.set_cons_zero, List.set_cons_succ] at h4
  have h5 := heap_setCell_same (off := 4) h4 v4
  simp only [List.setIfInBounds_toArray, List.set_cons_zero, List.set_cons_succ] at h5
  have h6 := heap_setCell_same (off := 5) h5 v5
  simp only [List.setIfInBounds_toArray, List.set_cons_zero, List.set_cons_succ] at h6
  have h7 := heap_setCell_same (off := 6) h6 v6
  simp only [List.setIfInBounds_toArray, List.set_cons_zero, List.set_cons_succ] at h7
  have h8 := heap_setCell_same (off := 7) h7 v7
  simp only [List.setIfInBounds_toArray, List.set_cons_zero, List.set_cons_succ] at h8
  have m1 := (Mod.refl (· = g) w).setCell ⟨g, 0, none⟩ v0 (fun _ => rfl)
  have m2 := m1.setCell ⟨g, 1, none⟩ v1 (fun _ => rfl)
  have m3 := m2.setCell ⟨g, 2, none⟩ v2 (fun _ => rfl)
  have m4 := m3.setCell ⟨g, 3, none⟩ v3 (fun _ => rfl)
  have m5 := m4.setCell ⟨g, 4, none⟩ v4 (fun _ => rfl)
  have m6 := m5.setCell ⟨g, 5, none⟩ v5 (fun _ => rfl)
  have m7 := m6.setCell ⟨g, 6, none⟩ v6 (fun _ => rfl)
  have m8 := m7.setCell ⟨g, 7, none⟩ v7 (fun _ => rfl)
  exact ⟨h8, m8⟩
theorem wc_size (v : V8) : (wc v.list).toArray.size = 8 := rfl
set_option maxRecDepth 100000 in
set_option maxHeartbeats 4000000 in
theorem refBlock (hb kb bb bo cb : Nat) (v : V8) (b : List UInt8) (w : World) (hh : w.heap[hb]? = some (.cells (wc v.list).toArray 77 (0, 0))) (hk : w.heap[kb]? = some (.cells (wc kTab).toArray 76 (0, 0)))
    (hne : kb ≠ hb) (hrow : ∀ i, i < 64 → w.cell? ⟨bb, bo + i, none⟩ = some (.int .u8 (b.getD i 0).toNat)) (hl : b.length = 64) (hcb : 64 ≤ cb) :
    Calls Tryz.prog 86 #[.slice (some ⟨hb, 0, none⟩) 8 8, .slice (some ⟨kb, 0, none⟩) 64 64, .slice (some ⟨bb, bo, none⟩) 64 cb] w fun e w' => e = .returned (.tuple #[]) ∧ w'.heap[hb]? = some (.cells (wc (mixV b v).list).toArray 77 (0, 0)) ∧ Mod (· = hb) w w' := by
  have HH := Lib.hid hh
  have HK := Lib.hid hk
  have HL := Lib.hid hl
  have HB : Hid (∀ w', Mod nil w w' → ∀ i, i < 64 → w'.cell? ⟨bb, bo + i, none⟩ = some (.int .u8 (b.getD i 0).toNat)) := Lib.hid (fun w' m i hi => cell_kept (hrow i hi) m (World.block_lt_of_cell? _ _ (hrow i hi)) (not_nil _))
  have HBB : Hid (bb < w.heap.size) := Lib.hid (World.block_lt_of_cell? _ _ (hrow 0 (by omega)))
  clear hh hk hl hrow
  refine (?_ : ∀ Post : Ending → World → Prop, Hid (∀ e w', (e = .returned (.tuple #[]) ∧ w'.heap[hb]? = some (.cells (wc (mixV b v).list).toArray 77 (0, 0)) ∧ Mod (· = hb) w w') → Post e w') → Calls Tryz.prog 86 #[.slice (some ⟨hb, 0, none⟩) 8 8, .slice (some ⟨kb, 0, none⟩) 64 64, .slice (some ⟨bb, bo, none⟩) 64 cb] w Post) _ (Lib.hid (fun _ _ h => h))
  intro Post HPOST
  go_enter Tryz.func86, Tryz.ntmps86
  go_upto_region 1 with (fail)
  obtain ⟨g, hg⟩ : ∃ g, w.heap.size = g := ⟨_, rfl⟩
  obtain ⟨m, hm⟩ : ∃ m, mwords b = m := ⟨_, rfl⟩
  generalize hw1 : w.alloc _ = w1
  have HG1 : Hid (w1.heap[g]? = some (.cells (wc (schedL m 0)).toArray 76 (0, 0))) := Lib.hid (by rw [← hw1, ← hg, heap_alloc_new]; rfl)
  have HM1 : Hid (Mod nil w w1) := Lib.hid (by rw [← hw1]; exact (Mod.refl _ _).alloc _)
  have HGB : Hid (w.heap.size = g) := Lib.hid hg
  have hbg : bb ≠ g := by have := HBB.out; omega
  rw [hg]
  have HMB := Lib.hid hm
  clear hw1 hg hm
  go_wp2_with fail
  go_loopw [7] (fun v7 wr => ∃ i : Nat, i ≤ 16 ∧ v7 = .int .i64 i ∧ Hid (wr.heap[g]? = some (.cells (wc (schedL m i)).toArray 76 (0, 0))) ∧ Hid (Mod nil w wr)) (fun v _ => 16 - (intOf v).toNat)
  case atStart => exact ⟨0, by omega, rfl, HG1, HM1⟩
  case round =>
    obtain ⟨i, hi, rfl, HG, HM⟩ := hrel
    clear HG1 HM1
    by_cases hlt : i < 16
    · have hbi : decide ((i : Int) < 16) = true := by simp; omega
      have hib : (i : Int) < 16 := by omega
      have hi64 : (i : Int) < 64 := by omega
      obtain ⟨I, hI⟩ : ∃ I : Nat, 4 * i = I := ⟨_, rfl⟩
      have hI4 : (4 : Int) * (i : Int) = (I : Int) := by omega
      have hI1 : (I : Int) + 1 < 64 := by omega
      have hI2 : (I : Int) + 2 < 64 := by omega
      have hI3 : (I : Int) + 3 < 64 := by omega
      have hI0 : (I : Int) < 64 := by omega
      have hnext := schedL_word b i hlt HL.out
      rw [HMB.out, hI] at hnext
      have q0 := HB.out _ HM.out I (by omega)
      have q1 := HB.out _ HM.out (I + 1) (by omega)
      have q2 := HB.out _ HM.out (I + 2) (by omega)
      have q3 := HB.out _ HM.out (I + 3) (by omega)
      generalize b.getD I 0 = c0 at q0 hnext
      generalize b.getD (I + 1) 0 = c1 at q1 hnext
      generalize b.getD (I + 2) 0 = c2 at q2 hnext
      generalize b.getD (I + 3) 0 = c3 at q3 hnext
      have n0 : c0.toNat < 256 := c0.toNat_lt
      have n1 : c1.toNat < 256 := c1.toNat_lt
      have n2 : c2.toNat < 256 := c2.toNat_lt
      have n3 : c3.toNat < 256 := c3.toNat_lt
      have e0 : IntKind.u32.wrap ((c0.toNat : Int) * 16777216) = u (w8 c0 <<< 24) := by rw [IntKind.wrap_u32, u_w8]; exact u_shl _ 24
      have e1 : IntKind.u32.wrap ((c1.toNat : Int) * 65536) = u (w8 c1 <<< 16) := by rw [IntKind.wrap_u32, u_w8]; exact u_shl _ 16
      have e2 : IntKind.u32.wrap ((c2.toNat : Int) * 256) = u (w8 c2 <<< 8) := by rw [IntKind.wrap_u32, u_w8]; exact u_shl _ 8
      have e0' : ((c0.toNat : Int) * 16777216) % 4294967296 = u (w8 c0 <<< 24) := by rw [u_w8]; exact u_shl _ 24
      have e1' : ((c1.toNat : Int) * 65536) % 4294967296 = u (w8 c1 <<< 16) := by rw [u_w8]; exact u_shl _ 16
      have e2' : ((c2.toNat : Int) * 256) % 4294967296 = u (w8 c2 <<< 8) := by rw [u_w8]; exact u_shl _ 8
      have k0 : IntKind.u32.wrap (c0.toNat : Int) = (c0.toNat : Int) := by rw [IntKind.wrap_u32]; omega
      have k1 : IntKind.u32.wrap (c1.toNat : Int) = (c1.toNat : Int) := by rw [IntKind.wrap_u32]; omega
      have k2 : IntKind.u32.wrap (c2.toNat : Int) = (c2.toNat : Int) := by rw [IntKind.wrap_u32]; omega
      have k3 : IntKind.u32.wrap (c3.toNat : Int) = (c3.toNat : Int) := by rw [IntKind.wrap_u32]; omega
      have o1 := u_or (w8 c0 <<< 24) (w8 c1 <<< 16)
      have o2 := u_or (w8 c0 <<< 24 ||| w8 c1 <<< 16) (w8 c2 <<< 8)
      have o3 : bits .or .u32 (u (w8 c0 <<< 24 ||| w8 c1 <<< 16 ||| w8 c2 <<< 8)) (c3.toNat : Int) = u (w8 c0 <<< 24 ||| w8 c1 <<< 16 ||| w8 c2 <<< 8 ||| w8 c3) := by rw [u_w8, u_or]
      rw [← hnext] at o3
      obtain ⟨X, hX⟩ : ∃ X, wNext m (schedTo m i) i = X := ⟨_, rfl⟩
      rw [hX] at o3
      generalize w8 c0 <<< 24 = d0 at *
      generalize w8 c1 <<< 16 = d1 at *
      generalize w8 c2 <<< 8 = d2 at *
      generalize d0 ||| d1 = d01 at *
      generalize d01 ||| d2 = d012 at *
      generalize c0.toNat = x0 at *
      generalize c1.toNat = x1 at *
      generalize c2.toNat = x2 at *
      generalize c3.toNat = x3 at *
      have hgi := wc_cell HG.out i (by rw [schedL_length m i (by omega)]; omega)
      have hfr := free_of HG.out i
      have hst := wc_store HG.out i X
      rw [← hX, schedL_set m i (by omega), hX] at hst
      have HST := Lib.hid hst
      have HMST : Hid (Mod nil w (wr.setCell ⟨g, i, none⟩ (.int .u32 (u X)))) := Lib.hid (HM.out.setCell _ _ (fun h => by have := HGB.out; simp only at h; omega))
      have cs : ∀ (x : Value) (j : Nat) (y : Value), wr.cell? ⟨bb, j, none⟩ = some y → (wr.setCell ⟨g, i, none⟩ x).cell? ⟨bb, j, none⟩ = some y := fun x j y h => (World.cell?_setCell_other _ ⟨g, i, none⟩ ⟨bb, j, none⟩ _ (by simp <;> omega)).trans h
      have c0' := fun x => cs x _ _ q0
      have c1' := fun x => cs x _ _ q1
      have c2' := fun x => cs x _ _ q2
      have c3' := fun x => cs x _ _ q3
      have HI := Lib.hid hI
      have p1 : 0 ≤ (I : Int) + 1 := by omega
      have p2 : 0 ≤ (I : Int) + 2 := by omega
      have p3 : 0 ≤ (I : Int) + 3 := by omega
      have t1 : ((I : Int) + 1).toNat = I + 1 := by omega
      have t2 : ((I : Int) + 2).toNat = I + 2 := by omega
      have t3 : ((I : Int) + 3).toNat = I + 3 := by omega
      have w0 : IntKind.i64.wrap (I : Int) = (I : Int) := by rw [IntKind.wrap_i64]; omega
      have w1' : IntKind.i64.wrap ((I : Int) + 1) = ((I + 1 : Nat) : Int) := by rw [IntKind.wrap_i64]; omega
      have w2' : IntKind.i64.wrap ((I : Int) + 2) = ((I + 2 : Nat) : Int) := by rw [IntKind.wrap_i64]; omega
      have w3' : IntKind.i64.wrap ((I : Int) + 3) = ((I + 3 : Nat) : Int) := by rw [IntKind.wrap_i64]; omega
      clear hst hnext cs hI hX
      go_upto_region 4 with (fail)
      go_region_held3 (fun w' => w'.cell? ⟨bb, bo + I, none⟩ = some (.int .u8 x0) ∧ w'.cell? ⟨bb, bo + (I + 1), none⟩ = some (.int .u8 x1) ∧ w'.cell? ⟨bb, bo + (I + 2), none⟩ = some (.int .u8 x2) ∧ w'.cell? ⟨bb, bo + (I + 3), none⟩ = some (.int .u8 x3)) (first | exact ⟨q0, q1, q2, q3⟩ | exact ⟨c0' _, c1' _, c2' _, c3' _⟩) (fail)
      clear hI4
      go_wp2_with fail
      exact ⟨⟨i + 1, by omega, by go_num, HST, Lib.hid HMST.out.drew⟩, by simp [intOf]; omega⟩
    · obtain rfl : i = 16 := by omega
      simp only [Int.cast_ofNat_Int]
      go_wp2_with fail
      go_loopw [8] (fun v8 wx => ∃ i : Nat, 16 ≤ i ∧ i ≤ 64 ∧ v8 = .int .i64 i ∧ Hid (wx.heap[g]? = some (.cells (wc (schedL m i)).toArray 76 (0, 0))) ∧ Hid (Mod nil w wx)) (fun v _ => 64 - (intOf v).toNat)
      case atStart => exact ⟨16, by omega, by omega, rfl, HG, HM⟩
      case round =>
        obtain ⟨i, hi16, hi, rfl, HG, HM⟩ := hrel
        by_cases hlt : i < 64
        · have hbi : decide ((i : Int) < 64) = true := by simp; omega
          have hib : (i : Int) < 64 := by omega
          have hlen := schedL_length m i hi
          obtain ⟨i2, h2⟩ : ∃ n : Nat, (i : Int) - 2 = n := ⟨i - 2, by omega⟩
          obtain ⟨i7, h7⟩ : ∃ n : Nat, (i : Int) - 7 = n := ⟨i - 7, by omega⟩
          obtain ⟨i15, h15⟩ : ∃ n : Nat, (i : Int) - 15 = n := ⟨i - 15, by omega⟩
          obtain ⟨i16, h16⟩ : ∃ n : Nat, (i : Int) - 16 = n := ⟨i - 16, by omega⟩
          have hb2 : i2 < 64 := by omega
          have hb7 : i7 < 64 := by omega
          have hb15 : i15 < 64 := by omega
          have hb16 : i16 < 64 := by omega
          have hnext : wNext m (schedTo m i) i = (schedL m i).getD i16 0 + s0 ((schedL m i).getD i15 0) + (schedL m i).getD i7 0 + s1 ((schedL m i).getD i2 0) := by
            unfold wNext
            rw [if_neg (by omega), schedL_get m i i16 (by omega), schedL_get m i i15 (by omega), schedL_get m i i7 (by omega), schedL_get m i i2 (by omega), show i - 16 = i16 by omega, show i - 15 = i15 by omega, show i - 7 = i7 by omega, show i - 2 = i2 by omega]
          have q2 := wc_cell HG.out i2 (by omega)
          have q7 := wc_cell HG.out i7 (by omega)
          have q15 := wc_cell HG.out i15 (by omega)
          have q16 := wc_cell HG.out i16 (by omega)
          generalize (schedL m i).getD i2 0 = x2 at q2 hnext
          generalize (schedL m i).getD i7 0 = x7 at q7 hnext
          generalize (schedL m i).getD i15 0 = x15 at q15 hnext
          generalize (schedL m i).getD i16 0 = x16 at q16 hnext
          have HN := Lib.hid hnext
          have HLEN := Lib.hid hlen
          have hii2 : i2 ≠ i := by omega
          have hii7 : i7 ≠ i := by omega
          have hii15 : i15 ≠ i := by omega
          have hii16 : i16 ≠ i := by omega
          clear hlen hnext
          go_upto_region 8 with (fail)
          go_quiet (fail)
          generalize hd : wr.drewN _ = w2
          have HG2 : Hid (w2.heap[g]? = some (.cells (wc (schedL m i)).toArray 76 (0, 0))) := Lib.hid (by rw [← hd]; exact HG.out)
          have HM2 : Hid (Mod nil w w2) := Lib.hid (by rw [← hd]; exact HM.out.drewN _)
          replace q7 : w2.cell? ⟨g, i7, none⟩ = some (.int .u32 (u x7)) := by rw [← hd]; exact q7
          replace q16 : w2.cell? ⟨g, i16, none⟩ = some (.int .u32 (u x16)) := by rw [← hd]; exact q16
          clear hd q2 q15
          have f1 := u_xor (ror x15 7) (ror x15 18)
          have f2 : u x15 / (8 : Int) = u (x15 >>> 3) := u_shr x15 3
          have f3 := u_xor (ror x15 7 ^^^ ror x15 18) (x15 >>> 3)
          rw [← s0] at f3
          have f4 := u_xor (ror x2 17) (ror x2 19)
          have f5 : u x2 / (1024 : Int) = u (x2 >>> 10) := u_shr x2 10
          have f6 := u_xor (ror x2 17 ^^^ ror x2 19) (x2 >>> 10)
          rw [← s1] at f6
          have a1 := u_addw x16 (s0 x15)
          have a2 := u_addw (x16 + s0 x15) x7
          have a3 := u_addw (x16 + s0 x15 + x7) (s1 x2)
          have hgi := wc_cell HG2.out i (by rw [HLEN.out]; exact hlt)
          have hfr := free_of HG2.out i
          have cs7 : ∀ x : Value, (w2.setCell ⟨g, i, none⟩ x).cell? ⟨g, i7, none⟩ = some (.int .u32 (u x7)) := fun x => (World.cell?_setCell_other _ ⟨g, i, none⟩ ⟨g, i7, none⟩ _ (by simp <;> omega)).trans q7
          have cs16 : ∀ x : Value, (w2.setCell ⟨g, i, none⟩ x).cell? ⟨g, i16, none⟩ = some (.int .u32 (u x16)) := fun x => (World.cell?_setCell_other _ ⟨g, i, none⟩ ⟨g, i16, none⟩ _ (by simp <;> omega)).trans q16
          have hst := wc_store HG2.out i (x16 + s0 x15 + x7 + s1 x2)
          rw [← HN.out, schedL_set m i hlt, HN.out] at hst
          have HST := Lib.hid hst
          have HMST : Hid (Mod nil w (w2.setCell ⟨g, i, none⟩ (.int .u32 (u (x16 + s0 x15 + x7 + s1 x2))))) := Lib.hid (HM2.out.setCell _ _ (fun h => by have := HGB.out; simp only at h; omega))
          clear hst hii2 hii7 hii15 hii16
          have hc16 : (i16 : Int) < 64 := by omega
          have hc7 : (i7 : Int) < 64 := by omega
          have hw16 : IntKind.i64.wrap (i16 : Int) = (i16 : Int) := by rw [IntKind.wrap_i64]; omega
          have hw7 : IntKind.i64.wrap (i7 : Int) = (i7 : Int) := by rw [IntKind.wrap_i64]; omega
          go_upto_region 9 with (fail)
          go_region_held3 (fun w' => w'.cell? ⟨g, i7, none⟩ = some (.int .u32 (u x7)) ∧ w'.cell? ⟨g, i16, none⟩ = some (.int .u32 (u x16))) (first | exact ⟨q7, q16⟩ | exact ⟨cs7 _, cs16 _⟩) (first | (go_at_call 106; refine (refTurn _ _ (by omega) (by omega) _).mono ?_; simp only [Int.reduceToNat]; rintro e w' ⟨rfl, rfl⟩))
          go_wp2_with fail
          exact ⟨⟨i + 1, by omega, by omega, by go_num, HST, Lib.hid HMST.out.drew⟩, by simp [intOf]; omega⟩
        · obtain rfl : i = 64 := by omega
          simp only [Int.cast_ofNat_Int]
          have hsl : schedL m 64 = schedTo m 64 := by simp [schedL]
          obtain ⟨ws, hws⟩ : ∃ ws, schedTo m 64 = ws := ⟨_, rfl⟩
          have hwl : ws.length = 64 := by rw [← hws, schedTo_length]
          rw [hsl, hws] at HG
          have HWS := Lib.hid hws
          have HWL := Lib.hid hwl
          have hbT : hb < g := by have := heap_lt HH.out; have := HGB.out; omega
          have kbT : kb < g := by have := heap_lt HK.out; have := HGB.out; omega
          clear hsl hws hwl hlt hi hi16 hbg
          go_upto_region 11 with (fail)
          obtain ⟨gv, hgv⟩ : ∃ gv, wr.heap.size = gv := ⟨_, rfl⟩
          generalize hw2 : wr.alloc _ = w2
          have HGV : Hid (w2.heap[gv]? = some (.cells (List.replicate 8 (Value.int .u32 0)).toArray 77 (0, 0))) := Lib.hid (by rw [← hw2, ← hgv, heap_alloc_new]; rfl)
          have hm2 : Mod nil wr w2 := by rw [← hw2]; exact (Mod.refl _ _).alloc _
          have HG2 := Lib.hid (hm2.keep HG.out)
          have HM2 := Lib.hid (HM.out.thenNil hm2)
          have hggv : g < gv := by have := heap_lt HG.out; omega
          rw [hgv]
          clear hw2 hm2 hgv HM HG
          obtain ⟨i0, hi0, hz0, hz1, hz2⟩ := info_parts info_u32
          have hsz : (Tryz.prog.info? 67).map (·.size) = some 1 := by rw [hi0]; simp [hz1]
          have hsrc : ∀ j y, (wc v.list)[j]? = some y → w2.cell? ((⟨hb, 0, none⟩ : Addr).add j) = some y := fun j y hj => by
            have h2 : (⟨hb, 0, none⟩ : Addr).add j = ⟨hb, j, none⟩ := by unfold Addr.add; split <;> simp_all
            rw [h2, cell_of (HM2.out.keep HH.out), List.getElem?_toArray]
            exact hj
          have hcp := run_copy_row (P := Tryz.prog) w2 133 133 3 67 gv 0 8 8 ⟨hb, 0, none⟩ 8 8 (List.replicate 8 (Value.int .u32 0)).toArray 77 (wc v.list) Tryz.underlying133 hsz HGV.out rfl hsrc (Nat.le_refl 8) (wc_one _)
          rw [show (List.replicate 8 (Value.int .u32 0)).toArray.toList.take 0 ++ wc v.list ++ (List.replicate 8 (Value.int .u32 0)).toArray.toList.drop (0 + (wc v.list).length) = wc v.list from by simp [wc, V8.list], show goInt (wc v.list).length = .int .i64 8 from rfl] at hcp
          have HGV3 : Hid ((w2.setRow gv (wc v.list).toArray).heap[gv]? = some (.cells (wc v.list).toArray 77 (0, 0))) := Lib.hid (setRow_heap w2 gv _ _ _ _ HGV.out)
          have HG3 : Hid ((w2.setRow gv (wc v.list).toArray).heap[g]? = some (.cells (wc ws).toArray 76 (0, 0))) := Lib.hid ((setRow_other w2 gv g _ (by omega)).trans HG2.out)
          have HM3 : Hid (Mod nil w (w2.setRow gv (wc v.list).toArray)) := Lib.hid ⟨HM2.out.os, HM2.out.tape, HM2.out.output, by simpa [World.setRow] using HM2.out.size, fun k hk h => (setRow_other w2 gv k _ (by have := HGB.out; omega)).trans (HM2.out.block k hk h)⟩
          generalize w2.setRow gv (wc v.list).toArray = w3 at hcp HGV3 HG3 HM3
          have HCP := Lib.hid hcp
          clear hcp hsrc hi0 hz0 hz1 hz2 hsz HG2 HM2 HGV
          go_upto_region 12 with (fail)
          rw [HCP.out]
          simp only [Result.andThen_ok]
          clear HCP
          go_wp2_with fail
          go_loopw [12] (fun v12 wx => ∃ i : Nat, i ≤ 64 ∧ v12 = .int .i64 i ∧ Hid (wx.heap[gv]? = some (.cells (wc (rounds kTab ws v i).list).toArray 77 (0, 0))) ∧ Hid (wx.heap[g]? = some (.cells (wc ws).toArray 76 (0, 0))) ∧ Hid (Mod nil w wx)) (fun v _ => 64 - (intOf v).toNat)
          case atStart => exact ⟨0, by omega, rfl, HGV3, HG3, HM3⟩
          case round =>
            obtain ⟨i, hi, rfl, HGX, HWX, HMX⟩ := hrel
            clear HGV3 HG3 HM3
            by_cases hlt : i < 64
            · have hbi : decide ((i : Int) < 64) = true := by simp; omega
              have hib : (i : Int) < 64 := by omega
              obtain ⟨r, hr⟩ : ∃ r, rounds kTab ws v i = r := ⟨_, rfl⟩
              obtain ⟨k, hk⟩ : ∃ k, kTab.getD i 0 = k := ⟨_, rfl⟩
              obtain ⟨x, hx⟩ : ∃ x, ws.getD i 0 = x := ⟨_, rfl⟩
              have hnext : rounds kTab ws v (i + 1) = roundV r k x := by rw [rounds, hr, hk, hx]
              rw [hr] at HGX
              have HNEXT := Lib.hid hnext
              have qx := wc_cell HWX.out i (by rw [HWL.out]; exact hlt)
              have qk := wc_cell (HMX.out.keep HK.out) i (by rw [kTab_length]; exact hlt)
              rw [hx] at qx
              rw [hk] at qk
              clear hr hk hx hnext
              obtain ⟨ra, rb, rc, rd, re, rf, rg, rh⟩ := r
              have q0 := wc_cell HGX.out 0 (by simp [V8.list])
              have q1 := wc_cell HGX.out 1 (by simp [V8.list])
              have q2 := wc_cell HGX.out 2 (by simp [V8.list])
              have q3 := wc_cell HGX.out 3 (by simp [V8.list])
              have q4 := wc_cell HGX.out 4 (by simp [V8.list])
              have q5 := wc_cell HGX.out 5 (by simp [V8.list])
              have q6 := wc_cell HGX.out 6 (by simp [V8.list])
              have q7 := wc_cell HGX.out 7 (by simp [V8.list])
              simp only [V8.list, List.getD_cons_zero, List.getD_cons_succ] at q0 q1 q2 q3 q4 q5 q6 q7
              have HCELL : Hid (∀ n : Nat, ((wr.drewN n).cell? ⟨gv, 0, none⟩ = some (.int .u32 (u ra)) ∧ (wr.drewN n).cell? ⟨gv, 1, none⟩ = some (.int .u32 (u rb)) ∧ (wr.drewN n).cell? ⟨gv, 2, none⟩ = some (.int .u32 (u rc)) ∧ (wr.drewN n).cell? ⟨gv, 3, none⟩ = some (.int .u32 (u rd)) ∧ (wr.drewN n).cell? ⟨gv, 4, none⟩ = some (.int .u32 (u re)) ∧ (wr.drewN n).cell? ⟨gv, 5, none⟩ = some (.int .u32 (u rf)) ∧ (wr.drewN n).cell? ⟨gv, 6, none⟩ = some (.int .u32 (u rg)) ∧ (wr.drewN n).cell? ⟨gv, 7, none⟩ = some (.int .u32 (u rh)) ∧ (wr.drewN n).cell? ⟨g, i, none⟩ = some (.int .u32 (u x)) ∧ (wr.drewN n).cell? ⟨kb, i, none⟩ = some (.int .u32 (u k)))) := Lib.hid (fun n => ⟨q0, q1, q2, q3, q4, q5, q6, q7, qx, qk⟩)
              go_upto_region 15 with (fail)
              go_quiet (fail)
              generalize hd : wr.drewN _ = w4
              have HGX4 : Hid (w4.heap[gv]? = some (.cells (wc [ra, rb, rc, rd, re, rf, rg, rh]).toArray 77 (0, 0))) := Lib.hid (by rw [← hd]; exact HGX.out)
              have HWX4 : Hid (w4.heap[g]? = some (.cells (wc ws).toArray 76 (0, 0))) := Lib.hid (by rw [← hd]; exact HWX.out)
              have HMX4 : Hid (Mod nil w w4) := Lib.hid (by rw [← hd]; exact HMX.out.drewN _)
              replace q0 : w4.cell? ⟨gv, 0, none⟩ = some (.int .u32 (u ra)) := by rw [← hd]; exact q0
              replace q1 : w4.cell? ⟨gv, 1, none⟩ = some (.int .u32 (u rb)) := by rw [← hd]; exact q1
              replace q2 : w4.cell? ⟨gv, 2, none⟩ = some (.int .u32 (u rc)) := by rw [← hd]; exact q2
              replace q3 : w4.cell? ⟨gv, 3, none⟩ = some (.int .u32 (u rd)) := by rw [← hd]; exact q3
              replace q4 : w4.cell? ⟨gv, 4, none⟩ = some (.int .u32 (u re)) := by rw [← hd]; exact q4
              replace q5 : w4.cell? ⟨gv, 5, none⟩ = some (.int .u32 (u rf)) := by rw [← hd]; exact q5
              replace q6 : w4.cell? ⟨gv, 6, none⟩ = some (.int .u32 (u rg)) := by rw [← hd]; exact q6
              replace q7 : w4.cell? ⟨gv, 7, none⟩ = some (.int .u32 (u rh)) := by rw [← hd]; exact q7
              replace qx : w4.cell? ⟨g, i, none⟩ = some (.int .u32 (u x)) := by rw [← hd]; exact qx
              replace qk : w4.cell? ⟨kb, i, none⟩ = some (.int .u32 (u k)) := by rw [← hd]; exact qk
              clear hd HCELL
              have hnx : ∀ (n : Int) (w : World), (Op.unary .xor (.int .u32 n)).run Tryz.prog w = .ok (.int .u32 (bits .xor .u32 4294967295 n)) w := fun _ _ => rfl
              have f1 := u_xor (ror re 6) (ror re 11)
              have f2 := u_xor (ror re 6 ^^^ ror re 11) (ror re 25)
              rw [← bigS1] at f2
              have n1 := u_and re rf
              have n2 := u_notw re
              have n2' := u_not re
              have n3 := u_and (~~~re) rg
              have n4 := u_xor (re &&& rf) (~~~re &&& rg)
              have a1 := u_addw rh (bigS1 re)
              have a2 := u_addw (rh + bigS1 re) ((re &&& rf) ^^^ (~~~re &&& rg))
              have a3 := u_addw (rh + bigS1 re + ((re &&& rf) ^^^ (~~~re &&& rg))) k
              have a4 : IntKind.u32.wrap (u (rh + bigS1 re + ((re &&& rf) ^^^ (~~~re &&& rg)) + k) + u x) = u (oneV ⟨ra, rb, rc, rd, re, rf, rg, rh⟩ k x) := u_addw _ _
              have b1 := u_add rh (bigS1 re)
              have b2 := u_add (rh + bigS1 re) ((re &&& rf) ^^^ (~~~re &&& rg))
              have b3 := u_add (rh + bigS1 re + ((re &&& rf) ^^^ (~~~re &&& rg))) k
              have b4 : (u (rh + bigS1 re + ((re &&& rf) ^^^ (~~~re &&& rg)) + k) + u x) % 4294967296 = u (oneV ⟨ra, rb, rc, rd, re, rf, rg, rh⟩ k x) := u_add _ _
              go_upto_region 16 with (fail)
              go_quiet (first | (go_at_call 106; exact Calls.quiet_of_same (refTurnQ _ _ (by omega) (by omega) _)))
              generalize hd : w4.drewN _ = w5
              have HGX5 : Hid (w5.heap[gv]? = some (.cells (wc [ra, rb, rc, rd, re, rf, rg, rh]).toArray 77 (0, 0))) := Lib.hid (by rw [← hd]; exact HGX4.out)
              have HWX5 : Hid (w5.heap[g]? = some (.cells (wc ws).toArray 76 (0, 0))) := Lib.hid (by rw [← hd]; exact HWX4.out)
              have HMX5 : Hid (Mod nil w w5) := Lib.hid (by rw [← hd]; exact HMX4.out.drewN _)
              clear hd
              clear q0 q1 q2 q3 q4 q5 q6 q7 qx qk f1 f2 n1 n2 n2' n3 n4 a1 a2 a3 a4 b1 b2 b3 b4 hnx
              have q0 : w5.cell? ⟨gv, 0, none⟩ = some (.int .u32 (u ra)) := wc_cell HGX5.out 0 (by simp)
              have q1 : w5.cell? ⟨gv, 1, none⟩ = some (.int .u32 (u rb)) := wc_cell HGX5.out 1 (by simp)
              have q2 : w5.cell? ⟨gv, 2, none⟩ = some (.int .u32 (u rc)) := wc_cell HGX5.out 2 (by simp)
              have q3 : w5.cell? ⟨gv, 3, none⟩ = some (.int .u32 (u rd)) := wc_cell HGX5.out 3 (by simp)
              have q4 : w5.cell? ⟨gv, 4, none⟩ = some (.int .u32 (u re)) := wc_cell HGX5.out 4 (by simp)
              have q5 : w5.cell? ⟨gv, 5, none⟩ = some (.int .u32 (u rf)) := wc_cell HGX5.out 5 (by simp)
              have q6 : w5.cell? ⟨gv, 6, none⟩ = some (.int .u32 (u rg)) := wc_cell HGX5.out 6 (by simp)
              have q7 : w5.cell? ⟨gv, 7, none⟩ = some (.int .u32 (u rh)) := wc_cell HGX5.out 7 (by simp)
              have f1 := u_xor (ror ra 2) (ror ra 13)
              have f2 := u_xor (ror ra 2 ^^^ ror ra 13) (ror ra 22)
              rw [← bigS0] at f2
              have n1 := u_and ra rb
              have n2 := u_and ra rc
              have n3 := u_xor (ra &&& rb) (ra &&& rc)
              have n4 := u_and rb rc
              have n5 := u_xor ((ra &&& rb) ^^^ (ra &&& rc)) (rb &&& rc)
              have n6 : IntKind.u32.wrap (u (bigS0 ra) + u (((ra &&& rb) ^^^ (ra &&& rc)) ^^^ (rb &&& rc))) = u (twoV ⟨ra, rb, rc, rd, re, rf, rg, rh⟩) := u_addw _ _
              have n7 : (u (bigS0 ra) + u (((ra &&& rb) ^^^ (ra &&& rc)) ^^^ (rb &&& rc))) % 4294967296 = u (twoV ⟨ra, rb, rc, rd, re, rf, rg, rh⟩) := u_add _ _
              obtain ⟨one, hone⟩ : ∃ one, oneV ⟨ra, rb, rc, rd, re, rf, rg, rh⟩ k x = one := ⟨_, rfl⟩
              obtain ⟨two, htwo⟩ : ∃ two, twoV ⟨ra, rb, rc, rd, re, rf, rg, rh⟩ = two := ⟨_, rfl⟩
              rw [htwo] at n6 n7
              have hlist : (roundV ⟨ra, rb, rc, rd, re, rf, rg, rh⟩ k x).list = [one + two, ra, rb, rc, rd + one, re, rf, rg] := by rw [← hone, ← htwo]; rfl
              have HLIST := Lib.hid hlist
              have HONE := Lib.hid hone
              rw [hone]
              clear hlist hone htwo
              go_upto_region 17 with (fail)
              go_quiet (first | (go_at_call 106; exact Calls.quiet_of_same (refTurnQ _ _ (by omega) (by omega) _)))
              generalize hd : w5.drewN _ = w6
              have HGX6 : Hid (w6.heap[gv]? = some (.cells (wc [ra, rb, rc, rd, re, rf, rg, rh]).toArray 77 (0, 0))) := Lib.hid (by rw [← hd]; exact HGX5.out)
              have HWX6 : Hid (w6.heap[g]? = some (.cells (wc ws).toArray 76 (0, 0))) := Lib.hid (by rw [← hd]; exact HWX5.out)
              have HMX6 : Hid (Mod nil w w6) := Lib.hid (by rw [← hd]; exact HMX5.out.drewN _)
              clear hd
              clear q0 q1 q2 q3 q4 q5 q6 q7 f1 f2 n1 n2 n3 n4 n5 n6 n7
              have q0 : w6.cell? ⟨gv, 0, none⟩ = some (.int .u32 (u ra)) := wc_cell HGX6.out 0 (by simp)
              have q1 : w6.cell? ⟨gv, 1, none⟩ = some (.int .u32 (u rb)) := wc_cell HGX6.out 1 (by simp)
              have q2 : w6.cell? ⟨gv, 2, none⟩ = some (.int .u32 (u rc)) := wc_cell HGX6.out 2 (by simp)
              have q3 : w6.cell? ⟨gv, 3, none⟩ = some (.int .u32 (u rd)) := wc_cell HGX6.out 3 (by simp)
              have q4 : w6.cell? ⟨gv, 4, none⟩ = some (.int .u32 (u re)) := wc_cell HGX6.out 4 (by simp)
              have q5 : w6.cell? ⟨gv, 5, none⟩ = some (.int .u32 (u rf)) := wc_cell HGX6.out 5 (by simp)
              have q6 : w6.cell? ⟨gv, 6, none⟩ = some (.int .u32 (u rg)) := wc_cell HGX6.out 6 (by simp)
              have q7 : w6.cell? ⟨gv, 7, none⟩ = some (.int .u32 (u rh)) := wc_cell HGX6.out 7 (by simp)
              have a1 : (u one + u two) % 4294967296 = u (one + two) := u_add _ _
              have a2 : (u rd + u one) % 4294967296 = u (rd + one) := u_add _ _
              have h8 := set_cells8 (show w6.heap[gv]? = some (.cells #[.int .u32 (u ra), .int .u32 (u rb), .int .u32 (u rc), .int .u32 (u rd), .int .u32 (u re), .int .u32 (u rf), .int .u32 (u rg), .int .u32 (u rh)] 77 (0, 0)) from HGX6.out) (.int .u32 (u (one + two))) (.int .u32 (u ra)) (.int .u32 (u rb)) (.int .u32 (u rc)) (.int .u32 (u (rd + one))) (.int .u32 (u re)) (.int .u32 (u rf)) (.int .u32 (u rg))
              have z0 := free_of HGX6.out 0
              have z1 := free_of HGX6.out 1
              have z2 := free_of HGX6.out 2
              have z3 := free_of HGX6.out 3
              have z4 := free_of HGX6.out 4
              have z5 := free_of HGX6.out 5
              have z6 := free_of HGX6.out 6
              have z7 := free_of HGX6.out 7
              have H8 := Lib.hid h8
              clear h8
              go_wp2_with fail
              have h8 := H8.out
              generalize World.setCell (World.setCell (World.setCell (World.setCell (World.setCell (World.setCell (World.setCell (World.setCell w6 _ _) _ _) _ _) _ _) _ _) _ _) _ _) _ _ = w7 at h8 ⊢
              refine ⟨⟨i + 1, by omega, by go_num, Lib.hid (by rw [HNEXT.out, HLIST.out]; exact h8.1), Lib.hid ((h8.2.block g (heap_lt HWX6.out) (by omega)).trans HWX6.out), Lib.hid (HMX6.out.trans h8.2 (fun k hk h => by have := HGB.out; omega))⟩, by simp [intOf]; omega⟩
            · obtain rfl : i = 64 := by omega
              simp only [Int.cast_ofNat_Int]
              obtain ⟨r, hr⟩ : ∃ r, rounds kTab ws v 64 = r := ⟨_, rfl⟩
              rw [hr] at HGX
              have hmix : mixV b v = addV v r := by rw [← hr, ← HWS.out, ← HMB.out]; rfl
              have HMIX := Lib.hid hmix
              clear hr hmix hlt hi
              have HHX := Lib.hid (HMX.out.keep HH.out)
              go_wp2_with fail
              go_loopw [17] (fun v17 wx => ∃ i : Nat, i ≤ 8 ∧ v17 = .int .i64 i ∧ Hid (wx.heap[hb]? = some (.cells (arr8 (wc v.list).toArray 0 (addV v r) i) 77 (0, 0))) ∧ Hid (wx.heap[gv]? = some (.cells (wc r.list).toArray 77 (0, 0))) ∧ Hid (Mod (· = hb) w wx)) (fun v _ => 8 - (intOf v).toNat)
              case atStart => exact ⟨0, by omega, rfl, HHX, HGX, Lib.hid HMX.out.ofNil⟩
              case round =>
                obtain ⟨i, hi, rfl, HHY, HGY, HMY⟩ := hrel
                by_cases hlt : i < 8
                · have hbi : decide ((i : Int) < 8) = true := by simp; omega
                  have hib : (i : Int) < 8 := by omega
                  obtain ⟨a, ha⟩ : ∃ a, v.list.getD i 0 = a := ⟨_, rfl⟩
                  obtain ⟨c, hc⟩ : ∃ c, r.list.getD i 0 = c := ⟨_, rfl⟩
                  have hget := arr8_get (wc v.list).toArray 0 (addV v r) i
                  have hget2 : (wc v.list).toArray[i]? = some (.int .u32 (u a)) := by rw [List.getElem?_toArray, wc_get v.list i (by simpa [V8.list] using hlt), ha]
                  rw [Nat.zero_add] at hget
                  have qh : wr.cell? ⟨hb, i, none⟩ = some (.int .u32 (u a)) := by rw [cell_of HHY.out]; exact hget.trans hget2
                  have qv := wc_cell HGY.out i (by simpa [V8.list] using hlt)
                  rw [hc] at qv
                  have fr := free_of HHY.out i
                  have n1 := u_addw a c
                  have hsum : (addV v r).list.getD i 0 = a + c := by rw [← ha, ← hc]; exact addV_get v r i hlt
                  have hst := heap_setCell_same (off := i) HHY.out (.int .u32 (u (a + c)))
                  have HST : Hid ((wr.setCell ⟨hb, i, none⟩ (.int .u32 (u (a + c)))).heap[hb]? = some (.cells (arr8 (wc v.list).toArray 0 (addV v r) (i + 1)) 77 (0, 0))) := Lib.hid (by rw [hst, arr8, Nat.zero_add, hsum])
                  have HMST : Hid (Mod (· = hb) w (wr.setCell ⟨hb, i, none⟩ (.int .u32 (u (a + c)))).drew) := Lib.hid ((HMY.out.setCell _ _ (fun _ => rfl)).drew)
                  have HGST : Hid ((wr.setCell ⟨hb, i, none⟩ (.int .u32 (u (a + c)))).heap[gv]? = some (.cells (wc r.list).toArray 77 (0, 0))) := Lib.hid (by rw [heap_setCell_other _ (by omega)]; exact HGY.out)
                  clear ha hc hsum hst hget hget2
                  go_upto_region 22 with (fail)
                  refine region_till (fun w' => w'.cell? ⟨hb, i, none⟩ = some (.int .u32 (u a)) ∧ w'.cell? ⟨gv, i, none⟩ = some (.int .u32 (u c))) 9 (by kernel_rfl) ?_
                  refine tF 0 (fun _ => ⟨qh, qv⟩) ?_
                  (try simp only [Act.put, pT])
                  (try simp only [Act.put, pT])
                  refine tF 1 (fun _ => ⟨qh, qv⟩) ?_
                  (try simp only [Act.put, pT])
                  (try simp only [Act.put, pT])
                  refine tF 2 (fun _ => ⟨qh, qv⟩) ?_
                  (try simp only [Act.put, pT])
                  (try simp only [Act.put, pT])
                  refine tT 3 (⟨qh, qv⟩) ?_
                  (try simp only [Act.put, pT])
                  (try simp only [Act.put, pT])
                  refine tF 4 (fun _ => ⟨qh, qv⟩) ?_
                  (try simp only [Act.put, pT])
                  (try simp only [Act.put, pT])
                  refine tF 5 (fun _ => ⟨qh, qv⟩) ?_
                  (try simp only [Act.put, pT])
                  (try simp only [Act.put, pT])
                  refine tT 6 (⟨qh, qv⟩) ?_
                  (try simp only [Act.put, pT])
                  (try simp only [Act.put, pT])
                  refine tF 7 (fun _ => ⟨qh, qv⟩) ?_
                  (try simp only [Act.put, pT])
                  (try simp only [Act.put, pT])
                  refine tF 8 (fun _ => ⟨qh, qv⟩) ?_
                  (try simp only [Act.put, pT])
                  (try simp only [Act.put, pT])
                  refine till_ready (rs := [9]) (by kernel_rfl) (by simp) ?_
                  refine till_cons (i := 9) rfl (fun K hK => ?_) till_nil
                  (try dsimp (config := { proj := false }) only [g0, g1, g2])
                  go_simp
                  refine hK.out _ _ (fun h => (by simp at h)) ?_
                  clear hK K
                  (try simp only [Act.put, pT])
                  refine till_done (by kernel_rfl) ?_ _
                  go_wp2_with fail
                  exact ⟨⟨i + 1, by omega, by go_num, HST, HGST, HMST⟩, by simp [intOf]; omega⟩
                · obtain rfl : i = 8 := by omega
                  go_wp2_with fail
                  go_end0
                  refine HPOST.out _ _ ⟨rfl, ?_, HMY.out⟩
                  rw [HMIX.out, ← wc_arr8 v (addV v r)]
                  exact HHY.out
end Go.Proofs.YtjilbnpehgigjaaGreat

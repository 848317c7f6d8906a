/- Package sha: a block is taken. -/
import Derived.Laws.CopyOwn
import Derived.Test.YtdfahddpkkeldaaGreatShort
import Derived.Test.YtdfahddpkkeldaaGreatOnce
import Derived.Test.YtdfahddpkkeldaaGreatNb
import Derived.Test.YtdfahddpkkeldaaGreatTailB
set_option linter.unusedSimpArgs false
set_option linter.unusedVariables false
namespace Go.Proofs.YtdfahddpkkeldaaGreat
open Go.RowKit
def schedL (m : List (BitVec 32)) (i : Nat) : List (BitVec 32) := schedTo m i ++ List.replicate (64 - i) 0#32
theorem schedL_length (m : List (BitVec 32)) (i : Nat) (hi : i ≤ 64) : (schedL m i).length = 64 := by simp [schedL, schedTo_length]; omega
theorem schedL_set (m : List (BitVec 32)) (i : Nat) (hi : i < 64) : (schedL m i).set i (wNext m (schedTo m i) i) = schedL m (i + 1) := by
 unfold schedL
 rw [List.set_append_right _ _ (by rw [schedTo_length]; exact Nat.le_refl _), schedTo_length, Nat.sub_self, show 64 - i = (64 - (i + 1)) + 1 by omega, List.replicate_succ, List.set_cons_zero, schedTo, List.append_assoc]
 rfl
theorem schedL_get (m : List (BitVec 32)) (i j : Nat) (hj : j < i) : (schedL m i).getD j 0 = (schedTo m i).getD j 0 := by
 unfold schedL
 rw [List.getD_eq_getElem?_getD, List.getElem?_append_left (by rw [schedTo_length]; exact hj), List.getD_eq_getElem?_getD]
theorem schedL_zero (m : List (BitVec 32)) (i : Nat) : (schedL m i).getD i 0 = 0#32 := by
 unfold schedL
 rw [List.getD_eq_getElem?_getD, List.getElem?_append_right (by rw [schedTo_length]; exact Nat.le_refl _), schedTo_length, Nat.sub_self, List.getElem?_replicate]
 split <;> rfl
theorem set_self {α : Type} (l : List α) (i : Nat) (d : α) (hi : i < l.length) : l.set i (l.getD i d) = l := by
 rw [List.getD_eq_getElem?_getD, List.getElem?_eq_getElem hi]
 simp
theorem wordOf_snoc (l : List UInt8) (c : UInt8) : wordOf (l ++ [c]) = wordOf l <<< 8 ||| w8 c := by simp [wordOf]
theorem u_w8 (c : UInt8) : (c.toNat : Int) = u (w8 c) := by
 unfold u w8
 simp
theorem mwords_get (b : List UInt8) (i : Nat) (hi : i < 16) : (mwords b).getD i 0 = wordOf ((b.drop (4 * i)).take 4) := by
 unfold mwords
 rw [List.getD_eq_getElem?_getD]
 simp [hi]
theorem take_get (b : List UInt8) (i k : Nat) (h : 4 * i + k < b.length) : (b.drop (4 * i)).take (k + 1) = (b.drop (4 * i)).take k ++ [b.getD (4 * i + k) 0] := by
 rw [List.take_succ_eq_append_getElem (by rw [List.length_drop]; omega), List.getElem_drop, List.getD_eq_getElem?_getD, List.getElem?_eq_getElem h]
 rfl
theorem set_getD {α : Type} (l : List α) (i : Nat) (x : α) {d : α} (h : i < l.length) : (l.set i x).getD i d = x := by
 rw [List.getD_eq_getElem?_getD, List.getElem?_set_self h]
 rfl
/-- a block's word -/
theorem wc_cell {w : World} {g : Nat} {T : TypeId} {fr : Nat × Nat} {l : List (BitVec 32)} (h : w.heap[g]? = some (.cells (wc l).toArray T fr)) (i : Nat) (hi : i < l.length) : w.cell? ⟨g, i, none⟩ = some (.int .u32 (u (l.getD i 0))) := by
 rw [cell_of h, List.getElem?_toArray]
 exact wc_get l i hi
theorem wc_store {w : World} {g : Nat} {T : TypeId} {fr : Nat × Nat} {l : List (BitVec 32)} (h : w.heap[g]? = some (.cells (wc l).toArray T fr)) (i : Nat) (x : BitVec 32) : (w.setCell ⟨g, i, none⟩ (.int .u32 (u x))).heap[g]? = some (.cells (wc (l.set i x)).toArray T fr) := by
 rw [heap_setCell_same h, List.setIfInBounds_toArray, wc_set]
theorem info_u32 : (Tryz.prog.info? 72).map (fun i => (i.zero, i.size, i.bytes)) = some (some (.int .u32 0), 1, 4) := by kernel_rfl
theorem wc_one (l : List (BitVec 32)) : ∀ v ∈ wc l, v.oneCell' = true := by
 intro v hv
 obtain ⟨x, _, rfl⟩ := List.mem_map.1 hv
 rfl
def arr8 (arr : Array Value) (ho : Nat) (v : V8) : Nat → Array Value
 | 0 => arr
 | j + 1 => (arr8 arr ho v j).setIfInBounds (ho + j) (.int .u32 (u (v.list.getD j 0)))
theorem arr8_get (arr : Array Value) (ho : Nat) (V : V8) (i : Nat) : (arr8 arr ho V i)[ho + i]? = arr[ho + i]? := by
 have : ∀ j, j ≤ i → (arr8 arr ho V j)[ho + i]? = arr[ho + i]? := by
  intro j
  induction j with
  | zero => intro _; rfl
  | succ j ih =>
   intro hj
   rw [arr8, Array.getElem?_setIfInBounds_ne (by omega)]
   exact ih (by omega)
 exact this i (Nat.le_refl _)
theorem addV_get (v r : V8) (i : Nat) (hi : i < 8) : (addV v r).list.getD i 0 = v.list.getD i 0 + r.list.getD i 0 := by
 match i, hi with
 | 0, _ => rfl
 | 1, _ => rfl
 | 2, _ => rfl
 | 3, _ => rfl
 | 4, _ => rfl
 | 5, _ => rfl
 | 6, _ => rfl
 | 7, _ => rfl
set_option maxRecDepth 100000 in
set_option maxHeartbeats 4000000 in
theorem shaMix (tb hb ho : Nat) (T : TypeId) (arr : Array Value) (v : V8) (b : List UInt8) (bb bo cb : Nat) (w : World) (ht : IsTab w tb) (hne : tb ≠ hb) (hh : w.heap[hb]? = some (.cells arr T (0, 0)))
    (hv : ∀ j, j < 8 → arr[ho + j]? = some (.int .u32 (u (v.list.getD j 0)))) (hrow : ∀ i, i < 64 → w.cell? ⟨bb, bo + i, none⟩ = some (.int .u8 (b.getD i 0).toNat)) (hl : b.length = 64) (hcb : 64 ≤ cb) :
    Calls Tryz.prog 122 #[.pointer (some ⟨tb, 0, none⟩), .pointer (some ⟨hb, ho, none⟩), .slice (some ⟨bb, bo, none⟩) 64 cb] w fun e w' => e = .returned (.tuple #[]) ∧ IsFull w' tb ∧ w'.heap[hb]? = some (.cells (arr8 arr ho (mixV b v) 8) T (0, 0)) ∧ Mod (fun k => k = tb ∨ k = hb) w w' := by
  have HT := Lib.hid ht
  have HH := Lib.hid hh
  have HV := Lib.hid hv
  have HL := Lib.hid hl
  have HB : Hid (∀ w', Mod nil w w' → ∀ i, i < 64 → w'.cell? ⟨bb, bo + i, none⟩ = some (.int .u8 (b.getD i 0).toNat)) := Lib.hid (fun w' m i hi => cell_kept (hrow i hi) m (World.block_lt_of_cell? _ _ (hrow i hi)) (not_nil _))
  clear ht hh hv hl hrow
  refine (?_ : ∀ Post : Ending → World → Prop, Hid (∀ e w', (e = .returned (.tuple #[]) ∧ IsFull w' tb ∧ w'.heap[hb]? = some (.cells (arr8 arr ho (mixV b v) 8) T (0, 0)) ∧ Mod (fun k => k = tb ∨ k = hb) w w') → Post e w') → Calls Tryz.prog 122 #[.pointer (some ⟨tb, 0, none⟩), .pointer (some ⟨hb, ho, none⟩), .slice (some ⟨bb, bo, none⟩) 64 cb] w Post) _ (Lib.hid (fun _ _ h => h))
  intro Post HPOST
  go_enter Tryz.func122, Tryz.ntmps122
  go_upto_region 1 with (fail)
  obtain ⟨g, hg⟩ : ∃ g, w.heap.size = g := ⟨_, rfl⟩
  obtain ⟨m, hm⟩ : ∃ m, mwords b = m := ⟨_, rfl⟩
  generalize hw1 : w.alloc _ = w1
  have HG1 : Hid (w1.heap[g]? = some (.cells (wc (schedL m 0)).toArray 81 (0, 0))) := Lib.hid (by rw [← hw1, ← hg, heap_alloc_new]; rfl)
  have HM1 : Hid (Mod nil w w1) := Lib.hid (by rw [← hw1]; exact (Mod.refl _ _).alloc _)
  have HGB : Hid (w.heap.size = g) := Lib.hid hg
  rw [hg]
  have HMB := Lib.hid hm
  clear hw1 hg hm
  go_wp2_with fail
  go_loopw [20] (fun v20 wr => ∃ i : Nat, i ≤ 64 ∧ v20 = .int .i64 i ∧ Hid (wr.heap[g]? = some (.cells (wc (schedL m i)).toArray 81 (0, 0))) ∧ Hid (Mod nil w wr)) (fun v _ => 64 - (intOf v).toNat)
  case atStart => exact ⟨0, by omega, rfl, HG1, HM1⟩
  case round =>
    obtain ⟨i, hi, rfl, HG, HM⟩ := hrel
    clear HG1 HM1
    by_cases hlt : i < 64
    · have hbi : decide ((i : Int) < 64) = true := by simp; omega
      have hib : (i : Int) < 64 := by omega
      by_cases h16 : i < 16
      · have hlen := schedL_length m i hi
        have hself := set_self (schedL m i) i 0 (by omega)
        rw [schedL_zero] at hself
        have HSELF := Lib.hid hself
        have HLEN := Lib.hid hlen
        clear hself hlen
        go_wp2_with fail
        go_loopw [33] (fun v33 wx => ∃ k : Nat, k ≤ 4 ∧ v33 = .int .i64 k ∧ Hid (wx.heap[g]? = some (.cells (wc ((schedL m i).set i (wordOf ((b.drop (4 * i)).take k)))).toArray 81 (0, 0))) ∧ Hid (Mod nil w wx)) (fun v _ => 4 - (intOf v).toNat)
        case atStart => exact ⟨0, by omega, rfl, Lib.hid (by rw [List.take_zero, show wordOf [] = 0#32 from rfl, HSELF.out]; exact HG.out), HM⟩
        case round =>
          obtain ⟨k, hk, rfl, HGX, HMX⟩ := hrel
          by_cases hk4 : k < 4
          · have hki : (k : Int) < 4 := by omega
            have hj : 4 * i + k < b.length := by have := HL.out; omega
            have hbc := HB.out _ HMX.out (4 * i + k) (by omega)
            have htk := take_get b i k (by have := HL.out; omega)
            obtain ⟨c, hc⟩ : ∃ c, b.getD (4 * i + k) 0 = c := ⟨_, rfl⟩
            obtain ⟨x, hx⟩ : ∃ x, wordOf ((b.drop (4 * i)).take k) = x := ⟨_, rfl⟩
            rw [hc, ← Nat.add_assoc] at hbc
            rw [hc] at htk
            rw [hx] at HGX
            have hgx := wc_cell HGX.out i (by rw [List.length_set, HLEN.out]; exact hlt)
            rw [set_getD _ _ _ (by rw [HLEN.out]; exact hlt)] at hgx
            have hfr := free_of HGX.out i
            have e1 : u x * (256 : Int) % (4294967296 : Int) = u (x <<< 8) := u_shl x 8
            have e2 : bits .or .u32 (u (x <<< 8)) (c.toNat : Int) = u (x <<< 8 ||| w8 c) := by rw [u_w8, u_or]
            have hcn : c.toNat < 256 := c.toNat_lt
            have hst := wc_store HGX.out i (x <<< 8 ||| w8 c)
            rw [List.set_set] at hst
            have HST := Lib.hid hst
            have HMST : Hid (Mod nil w (wr.setCell ⟨g, i, none⟩ (.int .u32 (u (x <<< 8 ||| w8 c))))) := Lib.hid (HMX.out.setCell _ _ (fun h => by have := HGB.out; simp only at h; omega))
            have HTK : Hid (wordOf ((b.drop (4 * i)).take (k + 1)) = x <<< 8 ||| w8 c) := Lib.hid (by rw [htk, wordOf_snoc, hx])
            generalize c.toNat = cn at hbc e2 hcn
            clear hst htk hc hx
            go_wp2_with fail
            exact ⟨⟨k + 1, by omega, by go_num, Lib.hid (by rw [HTK.out]; exact HST.out), HMST⟩, by simp [intOf]; omega⟩
          · obtain rfl : k = 4 := by omega
            have hnext : wNext m (schedTo m i) i = wordOf ((b.drop (4 * i)).take 4) := by
              unfold wNext
              rw [if_pos h16, ← HMB.out, mwords_get b i h16]
            have hst := HGX.out
            rw [← hnext, schedL_set m i hlt] at hst
            have HST := Lib.hid hst
            clear hnext hst
            go_wp2_with fail
            exact ⟨⟨i + 1, by omega, by go_num, HST, HMX⟩, by simp [intOf]; omega⟩
      · have hlen := schedL_length m i hi
        obtain ⟨i2, h2⟩ : ∃ n : Nat, (i : Int) - 2 = n := ⟨i - 2, by omega⟩
        obtain ⟨i7, h7⟩ : ∃ n : Nat, (i : Int) - 7 = n := ⟨i - 7, by omega⟩
        obtain ⟨i15, h15⟩ : ∃ n : Nat, (i : Int) - 15 = n := ⟨i - 15, by omega⟩
        obtain ⟨i16, hi16⟩ : ∃ n : Nat, (i : Int) - 16 = n := ⟨i - 16, by omega⟩
        have hb2 : i2 < 64 := by omega
        have hb7 : i7 < 64 := by omega
        have hb15 : i15 < 64 := by omega
        have hb16 : i16 < 64 := by omega
        have hnext : wNext m (schedTo m i) i = (schedL m i).getD i16 0 + s0 ((schedL m i).getD i15 0) + (schedL m i).getD i7 0 + s1 ((schedL m i).getD i2 0) := by
          unfold wNext
          rw [if_neg h16, schedL_get m i i16 (by omega), schedL_get m i i15 (by omega), schedL_get m i i7 (by omega), schedL_get m i i2 (by omega), show i - 16 = i16 by omega, show i - 15 = i15 by omega, show i - 7 = i7 by omega, show i - 2 = i2 by omega]
        have q2 := wc_cell HG.out i2 (by omega)
        have q7 := wc_cell HG.out i7 (by omega)
        have q15 := wc_cell HG.out i15 (by omega)
        have q16 := wc_cell HG.out i16 (by omega)
        generalize (schedL m i).getD i2 0 = x2 at q2 hnext
        generalize (schedL m i).getD i7 0 = x7 at q7 hnext
        generalize (schedL m i).getD i15 0 = x15 at q15 hnext
        generalize (schedL m i).getD i16 0 = x16 at q16 hnext
        have HN := Lib.hid hnext
        have HLEN := Lib.hid hlen
        have hii2 : i2 ≠ i := by omega
        have hii7 : i7 ≠ i := by omega
        have hii15 : i15 ≠ i := by omega
        have hii16 : i16 ≠ i := by omega
        clear hlen hnext
        go_upto_region 10 with (fail)
        go_quiet (fail)
        generalize hd : wr.drewN _ = w2
        have HG2 : Hid (w2.heap[g]? = some (.cells (wc (schedL m i)).toArray 81 (0, 0))) := Lib.hid (by rw [← hd]; exact HG.out)
        have HM2 : Hid (Mod nil w w2) := Lib.hid (by rw [← hd]; exact HM.out.drewN _)
        replace q7 : w2.cell? ⟨g, i7, none⟩ = some (.int .u32 (u x7)) := by rw [← hd]; exact q7
        replace q16 : w2.cell? ⟨g, i16, none⟩ = some (.int .u32 (u x16)) := by rw [← hd]; exact q16
        clear hd q2 q15
        have f1 := u_xor (ror x15 7) (ror x15 18)
        have f2 : u x15 / (8 : Int) = u (x15 >>> 3) := u_shr x15 3
        have f3 := u_xor (ror x15 7 ^^^ ror x15 18) (x15 >>> 3)
        rw [← s0] at f3
        go_wp2_with fail
        refine (rot7 x15 _).mono ?_
        rintro e w3 ⟨rfl, rfl⟩
        go_wp2_with fail
        refine (rot18 x15 _).mono ?_
        rintro e w3 ⟨rfl, rfl⟩
        have f4 := u_xor (ror x2 17) (ror x2 19)
        have f5 : u x2 / (1024 : Int) = u (x2 >>> 10) := u_shr x2 10
        have f6 := u_xor (ror x2 17 ^^^ ror x2 19) (x2 >>> 10)
        rw [← s1] at f6
        go_wp2_with fail
        refine (rot17 x2 _).mono ?_
        rintro e w3 ⟨rfl, rfl⟩
        go_wp2_with fail
        refine (rot19 x2 _).mono ?_
        rintro e w3 ⟨rfl, rfl⟩
        clear f1 f2 f3
        have a1 := u_add x16 (s0 x15)
        have a2 := u_add (x16 + s0 x15) x7
        have a3 := u_add (x16 + s0 x15 + x7) (s1 x2)
        go_upto_region 13 with (fail)
        clear f4 f5 f6
        have hgi := wc_cell HG2.out i (by rw [HLEN.out]; exact hlt)
        have hfr := free_of HG2.out i
        have cs7 : ∀ x : Value, (w2.setCell ⟨g, i, none⟩ x).cell? ⟨g, i7, none⟩ = some (.int .u32 (u x7)) := fun x => (World.cell?_setCell_other _ ⟨g, i, none⟩ ⟨g, i7, none⟩ _ (by simp <;> omega)).trans q7
        have cs16 : ∀ x : Value, (w2.setCell ⟨g, i, none⟩ x).cell? ⟨g, i16, none⟩ = some (.int .u32 (u x16)) := fun x => (World.cell?_setCell_other _ ⟨g, i, none⟩ ⟨g, i16, none⟩ _ (by simp <;> omega)).trans q16
        have hst := wc_store HG2.out i (x16 + s0 x15 + x7 + s1 x2)
        rw [← HN.out, schedL_set m i hlt, HN.out] at hst
        have HST := Lib.hid hst
        have HMST : Hid (Mod nil w (w2.setCell ⟨g, i, none⟩ (.int .u32 (u (x16 + s0 x15 + x7 + s1 x2))))) := Lib.hid (HM2.out.setCell _ _ (fun h => by have := HGB.out; simp only at h; omega))
        clear hst hii2 hii7 hii15 hii16
        have hc16 : (i16 : Int) < 64 := by omega
        have hc7 : (i7 : Int) < 64 := by omega
        have hw16 : IntKind.i64.wrap (i16 : Int) = (i16 : Int) := by rw [IntKind.wrap_i64]; omega
        have hw7 : IntKind.i64.wrap (i7 : Int) = (i7 : Int) := by rw [IntKind.wrap_i64]; omega
        go_region_held3 (fun w' => w'.cell? ⟨g, i7, none⟩ = some (.int .u32 (u x7)) ∧ w'.cell? ⟨g, i16, none⟩ = some (.int .u32 (u x16))) (first | exact ⟨q7, q16⟩ | exact ⟨cs7 _, cs16 _⟩) (fail)
        go_wp2_with fail
        exact ⟨⟨i + 1, by omega, by go_num, HST, Lib.hid HMST.out.drew⟩, by simp [intOf]; omega⟩
    · obtain rfl : i = 64 := by omega
      simp only [Int.cast_ofNat_Int]
      have hsl : schedL m 64 = schedTo m 64 := by simp [schedL]
      obtain ⟨ws, hws⟩ : ∃ ws, schedTo m 64 = ws := ⟨_, rfl⟩
      have hwl : ws.length = 64 := by rw [← hws, schedTo_length]
      rw [hsl, hws] at HG
      have HWS := Lib.hid hws
      have HWL := Lib.hid hwl
      have hbT : hb < g := by have := heap_lt HH.out; have := HGB.out; omega
      have hbTT : tb < g := by have := HT.out.lt; have := HGB.out; omega
      have hcell : ∀ j, j < 8 → wr.cell? ⟨hb, ho + j, none⟩ = some (.int .u32 (u (v.list.getD j 0))) := fun j hj => (cell_of (HM.out.keep HH.out) (ho + j)).trans (HV.out j hj)
      have q0 := hcell 0 (by omega)
      have q1 := hcell 1 (by omega)
      have q2 := hcell 2 (by omega)
      have q3 := hcell 3 (by omega)
      have q4 := hcell 4 (by omega)
      have q5 := hcell 5 (by omega)
      have q6 := hcell 6 (by omega)
      have q7 := hcell 7 (by omega)
      rw [Nat.add_zero] at q0
      clear hsl hws hwl hcell hlt hi
      go_upto_region 16 with (fail)
      clear q0 q1 q2 q3 q4 q5 q6 q7
      obtain ⟨gv, hgv⟩ : ∃ gv, wr.heap.size = gv := ⟨_, rfl⟩
      generalize hw2 : wr.alloc _ = w2
      have HGV : Hid (w2.heap[gv]? = some (.cells (wc v.list).toArray 82 (0, 0))) := Lib.hid (by rw [← hw2, ← hgv, heap_alloc_new]; rfl)
      have hm2 : Mod nil wr w2 := by rw [← hw2]; exact (Mod.refl _ _).alloc _
      have HG2 := Lib.hid (hm2.keep HG.out)
      have HM2 := Lib.hid (HM.out.thenNil hm2)
      have hggv : g < gv := by have := heap_lt HG.out; omega
      rw [hgv]
      clear hw2 hm2 hgv HM HG
      go_wp2_with fail
      go_loopw [90] (fun v90 wx => ∃ i : Nat, i ≤ 64 ∧ v90 = .int .i64 i ∧ Hid (wx.heap[gv]? = some (.cells (wc (rounds kTab ws v i).list).toArray 82 (0, 0))) ∧ Hid (wx.heap[g]? = some (.cells (wc ws).toArray 81 (0, 0))) ∧ Hid (IsTab wx tb ∧ (0 < i → IsFull wx tb)) ∧ Hid (Mod (· = tb) w wx)) (fun v _ => 64 - (intOf v).toNat)
      case atStart => exact ⟨0, by omega, rfl, HGV, HG2, Lib.hid ⟨HT.out.mod HM2.out (not_nil _), fun h => by omega⟩, Lib.hid HM2.out.ofNil⟩
      case round =>
        obtain ⟨i, hi, rfl, HGX, HWX, HTX, HMX⟩ := hrel
        clear HGV HG2 HM2
        by_cases hlt : i < 64
        · have hbi : decide ((i : Int) < 64) = true := by simp; omega
          have hib : (i : Int) < 64 := by omega
          obtain ⟨r, hr⟩ : ∃ r, rounds kTab ws v i = r := ⟨_, rfl⟩
          obtain ⟨k, hk⟩ : ∃ k, kTab.getD i 0 = k := ⟨_, rfl⟩
          obtain ⟨x, hx⟩ : ∃ x, ws.getD i 0 = x := ⟨_, rfl⟩
          have hnext : rounds kTab ws v (i + 1) = roundV r k x := by rw [rounds, hr, hk, hx]
          rw [hr] at HGX
          have HNEXT := Lib.hid hnext
          have HK := Lib.hid hk
          have qx := wc_cell HWX.out i (by rw [HWL.out]; exact hlt)
          rw [hx] at qx
          clear hr hk hx hnext
          obtain ⟨ra, rb, rc, rd, re, rf, rg, rh⟩ := r
          have q0 := wc_cell HGX.out 0 (by simp [V8.list])
          have q1 := wc_cell HGX.out 1 (by simp [V8.list])
          have q2 := wc_cell HGX.out 2 (by simp [V8.list])
          have q3 := wc_cell HGX.out 3 (by simp [V8.list])
          have q4 := wc_cell HGX.out 4 (by simp [V8.list])
          have q5 := wc_cell HGX.out 5 (by simp [V8.list])
          have q6 := wc_cell HGX.out 6 (by simp [V8.list])
          have q7 := wc_cell HGX.out 7 (by simp [V8.list])
          simp only [V8.list, List.getD_cons_zero, List.getD_cons_succ] at q0 q1 q2 q3 q4 q5 q6 q7
          have HQ : Hid (∀ w', Mod (· = tb) wr w' → w'.cell? ⟨gv, 5, none⟩ = some (.int .u32 (u rf)) ∧ w'.cell? ⟨gv, 6, none⟩ = some (.int .u32 (u rg)) ∧ w'.cell? ⟨gv, 7, none⟩ = some (.int .u32 (u rh)) ∧ w'.cell? ⟨g, i, none⟩ = some (.int .u32 (u x))) := Lib.hid (fun w' m' => by
            have k1 := heap_lt HGX.out
            have k2 := heap_lt HWX.out
            exact ⟨cell_kept q5 m' k1 (by omega), cell_kept q6 m' k1 (by omega), cell_kept q7 m' k1 (by omega), cell_kept qx m' k2 (by omega)⟩)
          go_upto_region 19 with (fail)
          go_quiet (fail)
          generalize hd : wr.drewN _ = w3
          have hm3 : Mod (· = tb) wr w3 := by rw [← hd]; exact (Mod.refl _ _).drewN _
          have HM3 := Lib.hid hm3
          have HT3 : Hid (IsTab w3 tb) := Lib.hid (by rw [← hd]; exact HTX.out.1)
          clear hd hm3 q0 q1 q2 q3 q4 q5 q6 q7 qx
          have f1 := u_xor (ror re 6) (ror re 11)
          have f2 := u_xor (ror re 6 ^^^ ror re 11) (ror re 25)
          rw [← bigS1] at f2
          go_wp2_with fail
          refine (rot6 re _).mono ?_
          rintro e w5 ⟨rfl, rfl⟩
          go_wp2_with fail
          refine (rot11 re _).mono ?_
          rintro e w5 ⟨rfl, rfl⟩
          go_wp2_with fail
          refine (rot25 re _).mono ?_
          rintro e w5 ⟨rfl, rfl⟩
          go_upto_region 21 with (fail)
          clear f1 f2
          have hnx : ∀ (n : Int) (w : World), (Op.unary .xor (.int .u32 n)).run Tryz.prog w = .ok (.int .u32 (bits .xor .u32 4294967295 n)) w := fun _ _ => rfl
          have n1 := u_and re rf
          have n2 := u_notw re
          have n3 := u_and (~~~re) rg
          have n4 := u_xor (re &&& rf) (~~~re &&& rg)
          have a1 := u_addw rh (bigS1 re)
          have a2 := u_addw (rh + bigS1 re) ((re &&& rf) ^^^ (~~~re &&& rg))
          have a3 := u_addw (rh + bigS1 re + ((re &&& rf) ^^^ (~~~re &&& rg))) k
          have a4 : IntKind.u32.wrap (u (rh + bigS1 re + ((re &&& rf) ^^^ (~~~re &&& rg)) + k) + u x) = u (oneV ⟨ra, rb, rc, rd, re, rf, rg, rh⟩ k x) := u_addw _ _
          refine wp_region_held_drew (S := (fun w' => w'.cell? ⟨gv, 5, none⟩ = some (.int .u32 (u rf)) ∧ w'.cell? ⟨gv, 6, none⟩ = some (.int .u32 (u rg)) ∧ w'.cell? ⟨gv, 7, none⟩ = some (.int .u32 (u rh)) ∧ w'.cell? ⟨g, i, none⟩ = some (.int .u32 (u x)))) (by kernel_rfl) (HQ.out _ HM3.out.drew) (fun hHeld => ?_)
          refine sH 0 ?_
          refine sH 1 ?_
          refine sH 2 ?_
          refine sH 3 ?_
          refine sH 4 ?_
          refine sH 5 ?_
          refine sH 6 ?_
          refine sH 7 ?_
          refine sH 8 ?_
          refine sH 9 ?_
          refine sH 10 ?_
          refine sH 11 ?_
          refine sH 12 ?_
          refine sH 13 ?_
          refine sH 14 ?_
          refine sH 15 ?_
          refine sH 16 ?_
          refine sH 19 ?_
          refine sH 20 ?_
          refine sH 21 ?_
          refine rH 17 (fun K hK => ?_)
          go_simp
          go_at_call 137
          refine (shaWord tb i hlt _ (HT3.out.mod (Mod.refl Go.Proofs.YtdfahddpkkeldaaGreat.nil w3).drew (not_nil _))).mono ?_
          rw [HK.out]
          rintro e w6 ⟨rfl, hf6, hm6⟩
          have HF6 := Lib.hid hf6
          have HM6 := Lib.hid (HM3.out.drew.trans hm6 (fun _ _ h => h))
          clear hf6 hm6
          dsimp only
          refine hK.out _ _ (HQ.out _ HM6.out) (fun hHeld => ?_)
          clear hK K
          (try simp only [Act.put, pT])
          refine sH 18 ?_
          refine sH 22 ?_
          refine sH 23 ?_
          refine wpAnyH_done (by kernel_rfl) ?_ _
          have f1 := u_xor (ror ra 2) (ror ra 13)
          have f2 := u_xor (ror ra 2 ^^^ ror ra 13) (ror ra 22)
          rw [← bigS0] at f2
          clear n1 n2 n3 n4 a1 a2 a3 a4 hnx
          have HGX6 : Hid (w6.heap[gv]? = some (.cells (wc [ra, rb, rc, rd, re, rf, rg, rh]).toArray 82 (0, 0))) := Lib.hid (by
            rw [HM6.out.block gv (heap_lt HGX.out) (by omega)]; exact HGX.out)
          go_wp2_with fail
          refine (rot2 ra _).mono ?_
          rintro e w7 ⟨rfl, rfl⟩
          go_wp2_with fail
          refine (rot13 ra _).mono ?_
          rintro e w7 ⟨rfl, rfl⟩
          go_wp2_with fail
          refine (rot22 ra _).mono ?_
          rintro e w7 ⟨rfl, rfl⟩
          have p1 := wc_cell HGX6.out 1 (by simp)
          have p2 := wc_cell HGX6.out 2 (by simp)
          simp only [List.getD_cons_zero, List.getD_cons_succ] at p1 p2
          have n1 := u_and ra rb
          have n2 := u_and ra rc
          have n3 := u_xor (ra &&& rb) (ra &&& rc)
          have n4 := u_and rb rc
          have n5 := u_xor ((ra &&& rb) ^^^ (ra &&& rc)) (rb &&& rc)
          have n6 : (u (bigS0 ra) + u (((ra &&& rb) ^^^ (ra &&& rc)) ^^^ (rb &&& rc))) % (4294967296 : Int) = u (twoV ⟨ra, rb, rc, rd, re, rf, rg, rh⟩) := u_add _ _
          go_upto_region 24 with (fail)
          (try simp only [n6])
          clear n1 n2 n3 n4 n5 f1 f2 p1 p2
          obtain ⟨i0, hi0, hz0, hz1, hz2⟩ := info_parts info_u32
          have hsz : (Tryz.prog.info? 72).map (·.size) = some 1 := by rw [hi0]; simp [hz1]
          have hsrc : ∀ j y, (wc [ra, rb, rc, rd, re, rf, rg])[j]? = some y → w6.drew.cell? ((⟨gv, 0, none⟩ : Addr).add j) = some y := fun j y hj => by
            have hj7 : j < 7 := by have := (List.getElem?_eq_some_iff.1 hj).1; simpa [wc] using this
            have h1 := cell_of HGX6.out j
            have h2 : (⟨gv, 0, none⟩ : Addr).add j = ⟨gv, j, none⟩ := by unfold Addr.add; split <;> simp_all
            rw [h2]
            refine Eq.trans (show w6.drew.cell? ⟨gv, j, none⟩ = _ from h1) ?_
            rw [List.getElem?_toArray, show wc [ra, rb, rc, rd, re, rf, rg, rh] = wc [ra, rb, rc, rd, re, rf, rg] ++ wc [rh] from rfl, List.getElem?_append_left (by simpa [wc] using hj7)]
            exact hj
          have HSRC := Lib.hid hsrc
          clear hsrc
          go_region_held3 (fun _ => True) (trivial) (first
            | (refine step_copy_splice rfl (.tmp 153) (.tmp 154) 173 173 rfl 72 Tryz.underlying173 hsz _ _ 7 7 7 8 rfl rfl gv 1 (wc [ra, rb, rc, rd, re, rf, rg, rh]) 82 HGX6.out (wc [ra, rb, rc, rd, re, rf, rg]) rfl (fun _ => ⟨rfl, _, rfl, HSRC.out⟩) (by simp [wc]) (wc_one _) gv w6.drew (Below.refl _ _) (Nat.le_refl _) ?_; intro w7 hg7 hb7))
          have HG7 : Hid (w7.heap[gv]? = some (.cells (wc [ra, ra, rb, rc, rd, re, rf, rg]).toArray 82 (0, 0))) := Lib.hid hg7
          have HM7 : Hid (Mod (fun k => gv ≤ k) w6 w7) := Lib.hid ⟨hb7.os, hb7.tape, hb7.output, hb7.size, fun k _ hn => hb7.block k (by omega)⟩
          clear hg7 hb7 hi0 hz0 hz1 hz2 hsz HSRC
          have p4 := wc_cell HG7.out 4 (by simp)
          simp only [List.getD_cons_zero, List.getD_cons_succ] at p4
          have fr4 := free_of HG7.out 4
          clear n6
          have n1 : (u rd + u (oneV ⟨ra, rb, rc, rd, re, rf, rg, rh⟩ k x)) % (4294967296 : Int) = u (rd + oneV ⟨ra, rb, rc, rd, re, rf, rg, rh⟩ k x) := u_add _ _
          have HG8 := Lib.hid (wc_store HG7.out 4 (rd + oneV ⟨ra, rb, rc, rd, re, rf, rg, rh⟩ k x))
          have p0 := wc_cell HG8.out 0 (by simp)
          have fr0 := free_of HG8.out 0
          have HG9 := Lib.hid (wc_store HG8.out 0 (oneV ⟨ra, rb, rc, rd, re, rf, rg, rh⟩ k x + twoV ⟨ra, rb, rc, rd, re, rf, rg, rh⟩))
          have n2 : (u (oneV ⟨ra, rb, rc, rd, re, rf, rg, rh⟩ k x) + u (twoV ⟨ra, rb, rc, rd, re, rf, rg, rh⟩)) % (4294967296 : Int) = u (oneV ⟨ra, rb, rc, rd, re, rf, rg, rh⟩ k x + twoV ⟨ra, rb, rc, rd, re, rf, rg, rh⟩) := u_add _ _
          have HM9 : Hid (Mod (fun k => gv ≤ k) w6 ((w7.setCell ⟨gv, 4, none⟩ (.int .u32 (u (rd + oneV ⟨ra, rb, rc, rd, re, rf, rg, rh⟩ k x)))).setCell ⟨gv, 0, none⟩ (.int .u32 (u (oneV ⟨ra, rb, rc, rd, re, rf, rg, rh⟩ k x + twoV ⟨ra, rb, rc, rd, re, rf, rg, rh⟩))))) := Lib.hid ((HM7.out.setCell _ _ (fun _ => Nat.le_refl _)).setCell _ _ (fun _ => Nat.le_refl _))
          go_wp2_with fail
          generalize ((w7.setCell ⟨gv, 4, none⟩ (.int .u32 (u (rd + oneV ⟨ra, rb, rc, rd, re, rf, rg, rh⟩ k x)))).setCell ⟨gv, 0, none⟩ (.int .u32 (u (oneV ⟨ra, rb, rc, rd, re, rf, rg, rh⟩ k x + twoV ⟨ra, rb, rc, rd, re, rf, rg, rh⟩)))) = w9 at HG9 HM9 ⊢
          refine ⟨⟨i + 1, by omega, by go_num, Lib.hid (by rw [HNEXT.out]; exact HG9.out), Lib.hid ?_, Lib.hid ?_, Lib.hid ?_⟩, by simp [intOf]; omega⟩
          · have k2 := heap_lt HWX.out
            have k3 := HM6.out.size
            rw [HM9.out.block g (by omega) (by omega), HM6.out.block g k2 (by omega)]
            exact HWX.out
          · have hf : IsFull w9 tb := (HM9.out.block tb (heap_lt HF6.out) (by omega)).trans HF6.out
            exact ⟨full_tab hf, fun _ => hf⟩
          · have k1 := HMX.out.size
            have k2 := HGB.out
            exact (HMX.out.trans HM6.out (fun _ _ h => h)).trans HM9.out (fun j hj h => by omega)
        · obtain rfl : i = 64 := by omega
          simp only [Int.cast_ofNat_Int]
          obtain ⟨r, hr⟩ : ∃ r, rounds kTab ws v 64 = r := ⟨_, rfl⟩
          rw [hr] at HGX
          have hmix : mixV b v = addV v r := by rw [← hr, ← HWS.out, ← HMB.out]; rfl
          have HMIX := Lib.hid hmix
          have HFX := Lib.hid (HTX.out.2 (by omega))
          clear hr hmix hlt hi
          have hhx : wr.heap[hb]? = some (.cells arr T (0, 0)) := by
            have := HH.out
            rw [HMX.out.block hb (heap_lt this) (by omega)]; exact this
          have HHX := Lib.hid hhx
          clear hhx
          go_wp2_with fail
          go_loopw [166] (fun v166 wx => ∃ i : Nat, i ≤ 8 ∧ v166 = .int .i64 i ∧ Hid (wx.heap[hb]? = some (.cells (arr8 arr ho (addV v r) i) T (0, 0))) ∧ Hid (wx.heap[gv]? = some (.cells (wc r.list).toArray 82 (0, 0))) ∧ Hid (IsFull wx tb) ∧ Hid (Mod (fun k => k = tb ∨ k = hb) w wx)) (fun v _ => 8 - (intOf v).toNat)
          case atStart => exact ⟨0, by omega, rfl, HHX, HGX, HFX, Lib.hid (HMX.out.mono (fun _ _ h => .inl h))⟩
          case round =>
            obtain ⟨i, hi, rfl, HHY, HGY, HFY, HMY⟩ := hrel
            by_cases hlt : i < 8
            · have hbi : decide ((i : Int) < 8) = true := by simp; omega
              have hib : (i : Int) < 8 := by omega
              obtain ⟨a, ha⟩ : ∃ a, v.list.getD i 0 = a := ⟨_, rfl⟩
              obtain ⟨c, hc⟩ : ∃ c, r.list.getD i 0 = c := ⟨_, rfl⟩
              have qh : wr.cell? ⟨hb, ho + i, none⟩ = some (.int .u32 (u a)) := by rw [cell_of HHY.out, arr8_get, HV.out i hlt, ha]
              have qv := wc_cell HGY.out i (by simpa [V8.list] using hlt)
              rw [hc] at qv
              have fr := free_of HHY.out (ho + i)
              have n1 := u_addw a c
              have hsum : (addV v r).list.getD i 0 = a + c := by rw [← ha, ← hc]; exact addV_get v r i hlt
              have hst := heap_setCell_same (off := ho + i) HHY.out (.int .u32 (u (a + c)))
              rw [← hsum] at hst
              have HST : Hid ((wr.setCell ⟨hb, ho + i, none⟩ (.int .u32 (u (a + c)))).heap[hb]? = some (.cells (arr8 arr ho (addV v r) (i + 1)) T (0, 0))) := Lib.hid (by rw [← hsum]; exact hst)
              have HMST : Hid (Mod (fun k => k = tb ∨ k = hb) w (wr.setCell ⟨hb, ho + i, none⟩ (.int .u32 (u (a + c)))).drew) := Lib.hid ((HMY.out.setCell _ _ (fun _ => .inr rfl)).drew)
              have HGST : Hid ((wr.setCell ⟨hb, ho + i, none⟩ (.int .u32 (u (a + c)))).heap[gv]? = some (.cells (wc r.list).toArray 82 (0, 0))) := Lib.hid (by rw [heap_setCell_other _ (by omega)]; exact HGY.out)
              have HFST : Hid (IsFull (wr.setCell ⟨hb, ho + i, none⟩ (.int .u32 (u (a + c)))) tb) := Lib.hid ((heap_setCell_other _ hne).trans HFY.out)
              clear ha hc hsum hst
              go_upto_region 31 with (fail)
              refine region_till (fun w' => w'.cell? ⟨hb, ho + i, none⟩ = some (.int .u32 (u a)) ∧ w'.cell? ⟨gv, i, none⟩ = some (.int .u32 (u c))) 8 (by kernel_rfl) ?_
              refine sF 0 (fun _ => ⟨qh, qv⟩) ?_
              (try simp only [Act.put, pT])
              refine sF 1 (fun _ => ⟨qh, qv⟩) ?_
              (try simp only [Act.put, pT])
              refine sF 2 (fun _ => ⟨qh, qv⟩) ?_
              (try simp only [Act.put, pT])
              refine sF 3 (fun _ => ⟨qh, qv⟩) ?_
              (try simp only [Act.put, pT])
              refine sT 4 (⟨qh, qv⟩) ?_
              (try simp only [Act.put, pT])
              refine sF 5 (fun _ => ⟨qh, qv⟩) ?_
              (try simp only [Act.put, pT])
              refine sF 6 (fun _ => ⟨qh, qv⟩) ?_
              (try simp only [Act.put, pT])
              refine sT 7 (⟨qh, qv⟩) ?_
              (try simp only [Act.put, pT])
              refine sF 9 (fun _ => ⟨qh, qv⟩) ?_
              (try simp only [Act.put, pT])
              refine rT 8 (fun K hK => ?_)
              go_simp
              refine hK.out _ _ (fun h => (by simp at h)) ?_
              clear hK K
              (try simp only [Act.put, pT])
              refine sF 10 (fun _ => ⟨qh, qv⟩) ?_
              (try simp only [Act.put, pT])
              refine rT 11 (fun K hK => ?_)
              go_simp
              refine hK.out _ _ (fun h => (by simp at h)) ?_
              clear hK K
              (try simp only [Act.put, pT])
              refine till_done (by kernel_rfl) ?_ _
              go_wp2_with fail
              exact ⟨⟨i + 1, by omega, by go_num, HST, HGST, HFST, HMST⟩, by simp [intOf]; omega⟩
            · obtain rfl : i = 8 := by omega
              go_wp2_with fail
              go_end0
              refine HPOST.out _ _ ⟨rfl, HFY.out, ?_, HMY.out⟩
              rw [HMIX.out]
              exact HHY.out
end Go.Proofs.YtdfahddpkkeldaaGreat

/- Package sha: New. -/
namespace Go.Proofs.YtdfahddpkkeldaaGreat
open Go.RowKit
/-- the cells of a Hash -/
def hashOf (tb : Nat) (l : List (BitVec 32)) (rest : Value) (n : Int) : Array Value := ([Value.pointer (some ⟨tb, 0, none⟩)] ++ (wc l ++ [rest, .int .u64 n])).toArray
theorem hash_h (tb : Nat) (l : List (BitVec 32)) (rest : Value) (n : Int) (i : Nat) (hi : i < l.length) : (hashOf tb l rest n)[1 + i]? = some (.int .u32 (u (l.getD i 0))) := by
 simp only [hashOf, List.getElem?_toArray]
 rw [List.getElem?_append_right (by simp), List.getElem?_append_left (by simp [wc]; omega)]
 simp only [List.length_cons, List.length_nil]
 rw [show 1 + i - (0 + 1) = i by omega]
 exact wc_get l i hi
theorem hash_set (tb : Nat) (l : List (BitVec 32)) (rest : Value) (n : Int) (i : Nat) (hi : i < l.length) (x : BitVec 32) : (hashOf tb l rest n).setIfInBounds (1 + i) (.int .u32 (u x)) = hashOf tb (l.set i x) rest n := by
 simp only [hashOf, List.setIfInBounds_toArray]
 congr 1
 rw [List.set_append_right _ _ (by simp), List.set_append_left _ _ (by simp [wc]; omega)]
 simp only [List.length_cons, List.length_nil]
 rw [show 1 + i - (0 + 1) = i by omega, wc_set]
/-- a Hash in block b -/
def IsHash (w : World) (b tb : Nat) (v : V8) (rest : Value) (n : Int) : Prop := w.heap[b]? = some (.cells (hashOf tb v.list rest n) 178 (0, 0))
/-- the state that a hash begins with -/
def hV : V8 := ⟨hTab.getD 0 0, hTab.getD 1 0, hTab.getD 2 0, hTab.getD 3 0, hTab.getD 4 0, hTab.getD 5 0, hTab.getD 6 0, hTab.getD 7 0⟩
theorem list8 (l : List (BitVec 32)) (h : l.length = 8) : l = [l.getD 0 0, l.getD 1 0, l.getD 2 0, l.getD 3 0, l.getD 4 0, l.getD 5 0, l.getD 6 0, l.getD 7 0] := by
 match l, h with
 | [a, b, c, d, e, f, g, h], _ => rfl
theorem hV_list : hTab = hV.list := list8 hTab hTab_length
set_option maxRecDepth 100000 in
set_option maxHeartbeats 2000000 in
theorem shaNew (tb : Nat) (w : World) (ht : IsTab w tb) :
  Calls Tryz.prog 90 #[.pointer (some ⟨tb, 0, none⟩)] w fun e w' => ∃ b, e = .returned (.pointer (some ⟨b, 0, none⟩)) ∧ IsHash w' b tb hV (.slice none 0 0) 0 ∧ w.heap.size ≤ b ∧ IsFull w' tb ∧ Mod (· = tb) w w' := by
 have HT := Lib.hid ht
 clear ht
 refine (?_ : ∀ Post : Ending → World → Prop, Hid (∀ e w', (∃ b, e = .returned (.pointer (some ⟨b, 0, none⟩)) ∧ IsHash w' b tb hV (.slice none 0 0) 0 ∧ w.heap.size ≤ b ∧ IsFull w' tb ∧ Mod (· = tb) w w') → Post e w') → Calls Tryz.prog 90 #[.pointer (some ⟨tb, 0, none⟩)] w Post) _ (Lib.hid (fun _ _ h => h))
 intro Post HPOST
 go_enter Tryz.func90, Tryz.ntmps90
 go_upto_region 2 with (fail)
 obtain ⟨g, hg⟩ : ∃ g, w.heap.size = g := ⟨_, rfl⟩
 generalize hw1 : w.alloc _ = w1
 have HH1 : Hid (w1.heap[g]? = some (.cells (hashOf tb (hTab.take 0 ++ (List.replicate 8 0#32).drop 0) (.slice none 0 0) 0) 178 (0, 0))) := Lib.hid (by rw [← hw1, ← hg, heap_alloc_new]; rfl)
 have hm1 : Mod nil w w1 := by rw [← hw1]; exact (Mod.refl _ _).alloc _
 have HM1 : Hid (Mod (· = tb) w w1) := Lib.hid hm1.ofNil
 have HT1 := Lib.hid (HT.out.mod hm1 (not_nil _))
 have HGB : Hid (w.heap.size = g) := Lib.hid hg
 have htg : tb < g := by have := HT.out.lt; omega
 rw [hg]
 clear hw1 hg hm1 HT
 go_wp2_with fail
 go_loopw [8] (fun v8 wr => ∃ i : Nat, i ≤ 8 ∧ v8 = .int .i64 i ∧ Hid (wr.heap[g]? = some (.cells (hashOf tb (hTab.take i ++ (List.replicate 8 0#32).drop i) (.slice none 0 0) 0) 178 (0, 0))) ∧ Hid (IsTab wr tb ∧ (0 < i → IsFull wr tb)) ∧ Hid (Mod (· = tb) w wr)) (fun v _ => 8 - (intOf v).toNat)
 case atStart => exact ⟨0, by omega, rfl, HH1, Lib.hid ⟨HT1.out, fun h => by omega⟩, HM1⟩
 case round =>
  obtain ⟨i, hi, rfl, HHR, HTR, HMR⟩ := hrel
  by_cases hlt : i < 8
  ·have hbi : decide ((i : Int) < 8) = true := by simp; omega
   have hib : (i : Int) < 8 := by omega
   have hlen : (hTab.take i ++ (List.replicate 8 0#32).drop i).length = 8 := by simp [hTab_length]; omega
   obtain ⟨x, hx⟩ : ∃ x, hTab.getD i 0 = x := ⟨_, rfl⟩
   have hset : (hTab.take i ++ (List.replicate 8 0#32).drop i).set i x = hTab.take (i + 1) ++ (List.replicate 8 0#32).drop (i + 1) := by
    have h := take_set hTab (List.replicate 8 0#32) i (by rw [hTab_length]; exact hlt) (by simpa using hlt)
    rw [← h, ← hx, List.getD_eq_getElem?_getD, List.getElem?_eq_getElem (by rw [hTab_length]; exact hlt)]
    rfl
   obtain ⟨L, hL⟩ : ∃ L, hTab.take i ++ (List.replicate 8 0#32).drop i = L := ⟨_, rfl⟩
   rw [hL] at HHR hlen hset
   have HX := Lib.hid hx
   have HSET := Lib.hid hset
   clear hx hset hL
   go_upto_region 5 with (fail)
   go_region_held3 (fun _ => True) (trivial) (first
    | (go_at_call 121; refine (shaStart tb i hlt _ (HTR.out.1.mod (Mod.refl Go.Proofs.YtdfahddpkkeldaaGreat.nil wr).drew (not_nil _))).mono ?_; rw [HX.out]; rintro e w6 ⟨rfl, hf6, hm6⟩; have HF6 := Lib.hid hf6; have HM6 := Lib.hid hm6; have HH6 := Lib.hid ((hm6.block g (heap_lt HHR.out) (by omega)).trans HHR.out); have qc := (cell_of HH6.out (1 + i)).trans (hash_h tb _ _ _ i (by omega)); have qf := free_of HH6.out (1 + i); clear hf6 hm6))
   have HST : Hid ((w6.setCell ⟨g, 1 + i, none⟩ (.int .u32 (u x))).heap[g]? = some (.cells (hashOf tb (hTab.take (i + 1) ++ (List.replicate 8 0#32).drop (i + 1)) (.slice none 0 0) 0) 178 (0, 0))) := Lib.hid (by
    rw [heap_setCell_same HH6.out, hash_set tb _ _ _ i (by omega), HSET.out])
   have HFST : Hid (IsFull (w6.setCell ⟨g, 1 + i, none⟩ (.int .u32 (u x))) tb) := Lib.hid ((heap_setCell_other _ (by omega)).trans HF6.out)
   have HMST : Hid (Mod (· = tb) w (w6.setCell ⟨g, 1 + i, none⟩ (.int .u32 (u x)))) := Lib.hid ((HMR.out.drew.trans HM6.out (fun _ _ h => h)).setCell _ _ (fun h => by have := HGB.out; simp only at h; omega))
   clear qc qf
   go_wp2_with fail
   exact ⟨⟨i + 1, by omega, by go_num, HST, Lib.hid ⟨full_tab HFST.out, fun _ => HFST.out⟩, Lib.hid HMST.out⟩, by simp [intOf]; omega⟩
  ·obtain rfl : i = 8 := by omega
   have hh := HHR.out
   rw [List.take_of_length_le (by rw [hTab_length]; exact Nat.le_refl _), List.drop_eq_nil_of_le (by simp), List.append_nil, hV_list] at hh
   have HHF := Lib.hid hh
   clear hh
   go_wp2_with fail
   exact HPOST.out _ _ ⟨g, rfl, HHF.out, by have := HGB.out; omega, HTR.out.2 (by omega), HMR.out⟩
end Go.Proofs.YtdfahddpkkeldaaGreat

/- Package sha: Write. -/
namespace Go.Proofs.YtdfahddpkkeldaaGreat
open Go.RowKit
theorem vec_form1 {S : Nat → Prop} {w : World} {E : TypeId} {sz n : Nat} {v : Value} {xs : List Value} (h : IsVec S w E sz v n xs) : (v = .slice none 0 0 ∧ n = 0) ∨ ∃ g c, v = .slice (some ⟨g, 0, none⟩) n c ∧ n ≤ c := by
 rcases h.1.2 with ⟨rfl, rfl⟩ | ⟨g, cap, cur, rfl, _, _, hn, _⟩
 ·exact .inl ⟨rfl, rfl⟩
 ·exact .inr ⟨g, cap, rfl, hn⟩
/-- k blocks are taken -/
def mixK (A : List UInt8) (v : V8) : Nat → V8
 | 0 => v
 | k + 1 => mixV ((A.drop (64 * k)).take 64) (mixK A v k)
theorem hash_t (tb : Nat) (v : V8) (rest : Value) (n : Int) : (hashOf tb v.list rest n)[0]? = some (.pointer (some ⟨tb, 0, none⟩)) := rfl
theorem hash_rest (tb : Nat) (v : V8) (rest : Value) (n : Int) : (hashOf tb v.list rest n)[9]? = some rest := rfl
theorem hash_n (tb : Nat) (v : V8) (rest : Value) (n : Int) : (hashOf tb v.list rest n)[10]? = some (.int .u64 n) := rfl
theorem hash_set_rest (tb : Nat) (v : V8) (rest r : Value) (n : Int) : (hashOf tb v.list rest n).setIfInBounds 9 r = hashOf tb v.list r n := rfl
theorem hash_set_n (tb : Nat) (v : V8) (rest : Value) (n m : Int) : (hashOf tb v.list rest n).setIfInBounds 10 (.int .u64 m) = hashOf tb v.list rest m := rfl
theorem hash_arr8 (tb : Nat) (v r : V8) (rest : Value) (n : Int) : arr8 (hashOf tb v.list rest n) 1 r 8 = hashOf tb r.list rest n := by
 simp [arr8, hashOf, V8.list, wc, List.getD]
def restLen (w : World) (b : Nat) : Nat := match w.cell? ⟨b, 9, none⟩ with | some (.slice _ n _) => n | _ => 0
/-- what is left in a Hash behind k blocks -/
structure Left (w : World) (b tb : Nat) (v : V8) (n g : Nat) (A : List UInt8) (k : Nat) (p : Option Addr) (N C : Nat) : Prop where
 hash : IsHash w b tb (mixK A v k) (.slice p N C) n
 len : N + 64 * k = A.length
 cap : N ≤ C
 ptr : 0 < N → p = some ⟨g, 64 * k, none⟩
 cells : ∀ i, i < A.length → w.cell? ⟨g, i, none⟩ = some (.int .u8 (A.getD i 0).toNat)
theorem Left.restLen {w : World} {b tb : Nat} {v : V8} {n g : Nat} {A : List UInt8} {k : Nat} {p : Option Addr} {N C : Nat} (h : Left w b tb v n g A k p N C) : restLen w b = N := by
 unfold Go.Proofs.YtdfahddpkkeldaaGreat.restLen
 rw [(cell_of h.hash 9).trans (hash_rest _ _ _ _)]
theorem drop_getD (A : List UInt8) (k i : Nat) (hi : i < 64) : ((A.drop k).take 64).getD i 0 = A.getD (k + i) 0 := by
 simp [List.getD_eq_getElem?_getD, List.getElem?_take, List.getElem?_drop, hi]
set_option maxRecDepth 100000 in
set_option maxHeartbeats 2000000 in
theorem shaWrite (b tb : Nat) (v : V8) (S T : Nat → Prop) (rv vb : Value) (l m : List UInt8) (n : Nat) (w : World) (hh : IsHash w b tb v rv n) (hvec : IsVec S w 5 1 rv l.length (bys l)) (hSb : ¬ S b) (hSt : ¬ S tb) (hne : tb ≠ b) (ht : IsTab w tb)
  (hrow : IsRow T w vb (bys m)) (hTb : ¬ T b) (hl : l.length + m.length ≤ 1099511627776) (hn : n ≤ 1099511627776) :
  Calls Tryz.prog 91 #[.pointer (some ⟨b, 0, none⟩), vb] w fun e w' => e = .returned (.tuple #[]) ∧ (∃ rv', IsHash w' b tb (mixK (l ++ m) v ((l ++ m).length / 64)) rv' (n + m.length : Nat) ∧ IsVec (fun k => w.heap.size ≤ k) w' 5 1 rv' ((l ++ m).drop (64 * ((l ++ m).length / 64))).length (bys ((l ++ m).drop (64 * ((l ++ m).length / 64))))) ∧ IsTab w' tb ∧ Mod (fun k => k = tb ∨ k = b ∨ S k) w w' := by
 refine (?_ : ∀ Post : Ending → World → Prop, Hid (∀ e w', (e = .returned (.tuple #[]) ∧ (∃ rv', IsHash w' b tb (mixK (l ++ m) v ((l ++ m).length / 64)) rv' (n + m.length : Nat) ∧ IsVec (fun k => w.heap.size ≤ k) w' 5 1 rv' ((l ++ m).drop (64 * ((l ++ m).length / 64))).length (bys ((l ++ m).drop (64 * ((l ++ m).length / 64))))) ∧ IsTab w' tb ∧ Mod (fun k => k = tb ∨ k = b ∨ S k) w w') → Post e w') → Calls Tryz.prog 91 #[.pointer (some ⟨b, 0, none⟩), vb] w Post) _ (Lib.hid (fun _ _ h => h))
 intro Post HPOST
 obtain ⟨pm, cm, rfl, _⟩ := id hrow
 rw [bys_length] at hrow ⊢
 obtain ⟨M, hM⟩ : ∃ M, m.length = M := ⟨_, rfl⟩
 obtain ⟨q, hq⟩ : ∃ q, n + M = q := ⟨_, rfl⟩
 rw [hM] at hl hrow ⊢
 have hh1 : IsHash (w.setCell ⟨b, 10, none⟩ (.int .u64 q)) b tb v rv q := by
  unfold IsHash at hh ⊢
  rw [heap_setCell_same hh, hash_set_n]
 have m1 : Mod (· = b) w (w.setCell ⟨b, 10, none⟩ (.int .u64 q)) := (Mod.refl _ w).setCell _ _ (fun _ => rfl)
 have c10 := (cell_of hh 10).trans (hash_n _ _ _ _)
 have f10 := free_of hh 10
 have c9 := (cell_of hh1 9).trans (hash_rest _ _ _ _)
 have hvec1 := hvec.mod m1 (fun k _ hk e => hSb (e ▸ hk))
 have hrow1 := hrow.mod m1 (fun k _ hk e => hTb (e ▸ hk))
 obtain ⟨v7, w7, hrun, hvec7, hmod7⟩ := bytes_append (l := l) (m := m) 40 hvec1 hrow1 (by omega)
 obtain ⟨A, hA⟩ : ∃ A, l ++ m = A := ⟨_, rfl⟩
 obtain ⟨N, hN⟩ : ∃ N, A.length = N := ⟨_, rfl⟩
 have hNl : N ≤ 1099511627776 := by rw [← hN, ← hA, List.length_append, hM]; exact hl
 rw [hA] at hvec7
 have h7 : IsHash w7 b tb v rv q := (hmod7.block b (heap_lt hh1) hSb).trans hh1
 have hh8 : IsHash (w7.setCell ⟨b, 9, none⟩ v7) b tb v v7 q := by
  unfold IsHash at h7 ⊢
  rw [heap_setCell_same h7, hash_set_rest]
 have d9 := (cell_of h7 9).trans (hash_rest _ _ _ _)
 have e9 := free_of h7 9
 have m8 : Mod (fun k => k = tb ∨ k = b ∨ S k) w (w7.setCell ⟨b, 9, none⟩ v7) := ((m1.mono (fun _ _ h => .inr (.inl h))).trans hmod7 (fun _ _ h => .inr (.inr h))).setCell _ _ (fun _ => .inr (.inl rfl))
 have ht8 : IsTab (w7.setCell ⟨b, 9, none⟩ v7) tb := by
  have h1 := (ht.mod m1 hne).mod hmod7 hSt
  exact h1.mod ((Mod.refl (· = b) w7).setCell ⟨b, 9, none⟩ v7 (fun _ => rfl)) hne
 have hrow8 : IsVec (fun k => S k ∨ (w.setCell ⟨b, 10, none⟩ (.int .u64 q)).heap.size ≤ k) (w7.setCell ⟨b, 9, none⟩ v7) 5 1 v7 A.length (bys A) := hvec7.mod ((Mod.refl (· = b) w7).setCell ⟨b, 9, none⟩ v7 (fun _ => rfl)) (fun k _ hk e => hk.elim (fun h => hSb (e ▸ h)) (fun h => by have := heap_lt hh1; omega))
 rw [hN] at hrow8
 have hsz : b < w.heap.size := heap_lt hh
 have htz : tb < w.heap.size := ht.lt
 obtain ⟨g, hgb, hgt, p0, C0, rfl, hl0⟩ : ∃ g, g ≠ b ∧ g ≠ tb ∧ ∃ p0 C0, v7 = .slice p0 N C0 ∧ Left (w7.setCell ⟨b, 9, none⟩ v7) b tb v q g A 0 p0 N C0 := by
  rcases vec_form1 hrow8 with ⟨rfl, h0⟩ | ⟨g, c, rfl, hc⟩
  ·subst h0
   exact ⟨b + tb + 1, by omega, by omega, none, 0, rfl, ⟨hh8, by omega, by omega, fun h => by omega, fun i hi => by omega⟩⟩
  ·have hg := hrow8.2 g rfl
   have hsz0 : (w.setCell ⟨b, 10, none⟩ (.int .u64 q)).heap.size = w.heap.size := size_setCell _ _ _
   refine ⟨g, fun e => ?_, fun e => ?_, some ⟨g, 0, none⟩, c, rfl, ⟨hh8, by omega, hc, fun _ => rfl, fun i hi => ?_⟩⟩
   ·exact hg.elim (fun h => hSb (e ▸ h)) (fun h => by omega)
   ·exact hg.elim (fun h => hSt (e ▸ h)) (fun h => by omega)
   ·obtain ⟨p', c', hp, hcc⟩ := hrow8.cells
    obtain ⟨b', o', hp', _, _, hx⟩ := hcc i (by rw [bys_length]; exact hi)
    simp only [Value.slice.injEq] at hp
    obtain ⟨rfl, -, -⟩ := hp
    simp only [Option.some.injEq, Addr.mk.injEq, and_true] at hp'
    obtain ⟨rfl, rfl⟩ := hp'
    rw [Nat.zero_add] at hx
    rw [hx, bys_getD _ _ hi]
 have HL0 := Lib.hid hl0
 have hqi : (n : Int) + (M : Int) = (q : Int) := by omega
 have hqb : q < 18446744073709551616 := by omega
 have hMb : M < 18446744073709551616 := by omega
 have HQM : Hid (n + m.length = q) := Lib.hid (by rw [hM]; exact hq)
 have HRUN := Lib.hid hrun
 have HN := Lib.hid hN
 have HA := Lib.hid hA
 have HM8 := Lib.hid m8
 have HT8 := Lib.hid ht8
 clear hh hvec hh1 m1 hvec1 hrow1 hrow hrun hvec7 hmod7 hA hN h7 hh8 m8 ht8 hrow8 hq hM hl hl0
 go_enter Tryz.func91, Tryz.ntmps91
 go_wp2_with (first | (at_builtin; refine wpList_append_run rfl _ _ _ _ rfl rfl rfl HRUN.out ?_))
 obtain ⟨w8, hw8⟩ : ∃ x, w7.setCell ⟨b, 9, none⟩ (.slice p0 N C0) = x := ⟨_, rfl⟩
 rw [hw8] at HL0 HM8 HT8 ⊢
 clear hw8 c10 f10 c9 d9 e9 HRUN
 go_wp2_with fail
 go_loopw [] (fun wr => ∃ (k : Nat) (p : Option Addr) (N' C' : Nat), Hid (Left wr b tb v q g A k p N' C') ∧ Hid (IsTab wr tb) ∧ Hid (Mod (fun k => k = tb ∨ k = b) w8 wr)) (fun wr => restLen wr b)
 case atStart => exact ⟨0, p0, N, C0, HL0, HT8, Lib.hid (Mod.refl _ _)⟩
 case round =>
  obtain ⟨k, p, N', C', HLR, HTR, HMR⟩ := hrel
  clear HL0 HT8
  have q0 := (cell_of HLR.out.hash 0).trans (hash_t _ _ _ _)
  have q9 := (cell_of HLR.out.hash 9).trans (hash_rest _ _ _ _)
  have hlen := HLR.out.len
  have hcap := HLR.out.cap
  have hN' := HN.out
  by_cases h64 : 64 ≤ N'
  ·obtain rfl := HLR.out.ptr (by omega)
   have hN'l : N' ≤ 1099511627776 := by omega
   have hAl : 64 * k + 64 ≤ A.length := by omega
   have hblk : ((A.drop (64 * k)).take 64).length = 64 := by simp; omega
   have hmix := fun w' (m' : Mod Go.Proofs.YtdfahddpkkeldaaGreat.nil wr w') => shaMix tb b 1 178 _ (mixK A v k) ((A.drop (64 * k)).take 64) g (64 * k) C' w' (HTR.out.mod m' (not_nil _)) hne (m'.keep HLR.out.hash) (fun j hj => hash_h tb _ _ _ j hj) (fun i hi => by
    rw [drop_getD _ _ _ hi]
    exact cell_kept (HLR.out.cells (64 * k + i) (by omega)) m' (World.block_lt_of_cell? _ _ (HLR.out.cells (64 * k + i) (by omega))) (not_nil _)) hblk (by omega)
   have HMIX := Lib.hid hmix
   clear hmix hblk
   have r1 : restLen wr b = N' := HLR.out.restLen
   have HR1 := Lib.hid r1
   clear r1
   have hci : (64 : Int) ≤ (C' : Int) := by omega
   go_upto_region 3 with (fail)
   go_region_held3 (fun w' => w'.cell? ⟨b, 0, none⟩ = some (.pointer (some ⟨tb, 0, none⟩)) ∧ w'.cell? ⟨b, 9, none⟩ = some (.slice (some ⟨g, 64 * k, none⟩) N' C')) (first | exact ⟨q0, q9⟩ | exact ⟨r0, r9⟩) (first
    | (go_at_call 122; refine (HMIX.out _ (Mod.refl Go.Proofs.YtdfahddpkkeldaaGreat.nil wr).drew).mono ?_; rintro e w6 ⟨rfl, hf6, hh6, hm6⟩; rw [hash_arr8] at hh6; have r0 := (cell_of hh6 0).trans (hash_t _ _ _ _); have r9 := (cell_of hh6 9).trans (hash_rest _ _ _ _); have rf := free_of hh6 9; have HF6 := Lib.hid hf6; have HH6 := Lib.hid hh6; have HM6 := Lib.hid hm6; clear hf6 hh6 hm6))
   clear r0 q0 q9 HMIX hci
   have HLEN := Lib.hid hlen
   have hw6 : ∀ p2 N2 C2, N2 + 64 = N' → N2 ≤ C2 → (0 < N2 → p2 = some ⟨g, 64 * (k + 1), none⟩) → Left (w6.setCell ⟨b, 9, none⟩ (.slice p2 N2 C2)) b tb v q g A (k + 1) p2 N2 C2 ∧ IsTab (w6.setCell ⟨b, 9, none⟩ (.slice p2 N2 C2)) tb ∧ Mod (fun k => k = tb ∨ k = b) w8 (w6.setCell ⟨b, 9, none⟩ (.slice p2 N2 C2)) := fun p2 N2 C2 h1 h2 h3 => by
    have hm : Mod (fun k => k = tb ∨ k = b) wr (w6.setCell ⟨b, 9, none⟩ (.slice p2 N2 C2)) := (((Mod.refl _ wr).drew).trans HM6.out (fun _ _ h => h)).setCell _ _ (fun _ => .inr rfl)
    refine ⟨⟨?_, by have := HLEN.out; omega, h2, h3, fun i hi => ?_⟩, ?_, HMR.out.trans hm (fun _ _ h => h)⟩
    ·have h := heap_setCell_same (off := 9) HH6.out (.slice p2 N2 C2)
     rw [hash_set_rest] at h
     exact h
    ·have hc := HLR.out.cells i hi
     exact cell_kept hc hm (World.block_lt_of_cell? _ _ hc) (by omega)
    ·exact full_tab ((heap_setCell_other _ hne).trans HF6.out)
   have HW6 := Lib.hid hw6
   clear hw6 hlen
   obtain ⟨N2, rfl⟩ : ∃ N2, N' = N2 + 64 := ⟨N' - 64, by omega⟩
   obtain ⟨C2, rfl⟩ : ∃ C2, C' = C2 + 64 := ⟨C' - 64, by omega⟩
   by_cases hC : C2 = 0
   ·subst hC
    obtain rfl : N2 = 0 := by omega
    have H := Lib.hid (HW6.out (some ⟨g, 64 * k, none⟩) 0 0 rfl (by omega) (fun h => by omega))
    have HRL : Hid (restLen (w6.setCell ⟨b, 9, none⟩ (.slice (some ⟨g, 64 * k, none⟩) 0 0)) b = 0) := Lib.hid (H.out.1.restLen)
    go_wp2_with fail
    exact ⟨⟨k + 1, _, _, _, Lib.hid H.out.1, Lib.hid H.out.2.1, Lib.hid H.out.2.2⟩, by rw [HRL.out, HR1.out]; omega⟩
   ·have H := Lib.hid (HW6.out (some ⟨g, 64 * k + 64, none⟩) N2 C2 rfl (by omega) (fun h => by rw [show 64 * (k + 1) = 64 * k + 64 by omega]))
    have HRL : Hid (restLen (w6.setCell ⟨b, 9, none⟩ (.slice (some ⟨g, 64 * k + 64, none⟩) N2 C2)) b = N2) := Lib.hid (H.out.1.restLen)
    go_wp2_with fail
    exact ⟨⟨k + 1, _, _, _, Lib.hid H.out.1, Lib.hid H.out.2.1, Lib.hid H.out.2.2⟩, by rw [HRL.out, HR1.out]; omega⟩
  ·have hk : k = N / 64 := by omega
   obtain ⟨D, hD⟩ : ∃ D, A.drop (64 * k) = D := ⟨_, rfl⟩
   have hDl : D.length = N' := by rw [← hD, List.length_drop]; omega
   have hrowD : IsRow (fun _ => True) wr (.slice p N' C') (bys D) := by
    refine ⟨p, C', by rw [bys_length, hDl], fun i hi => ?_⟩
    rw [bys_length] at hi
    have hc := HLR.out.cells (64 * k + i) (by omega)
    refine ⟨g, 64 * k, HLR.out.ptr (by omega), trivial, World.block_lt_of_cell? _ _ hc, ?_⟩
    rw [hc, bys_getD _ _ hi, ← hD]
    simp [List.getD_eq_getElem?_getD, List.getElem?_drop]
   have HRD := Lib.hid hrowD
   have HDL := Lib.hid hDl
   have HD := Lib.hid hD
   have HKK := Lib.hid hk
   clear hlen hcap hN' hk hD hDl hrowD q0
   go_wp2_with fail
   refine (cloneBytes _ _ D wr HRD.out (by have := HDL.out; omega)).mono ?_
   rintro e w9 ⟨v9, rfl, hv9, hm9⟩
   have hh9 := hm9.keep HLR.out.hash
   have r9 := (cell_of hh9 9).trans (hash_rest _ _ _ _)
   have rf := free_of hh9 9
   have hfin : IsHash (w9.setCell ⟨b, 9, none⟩ v9) b tb (mixK A v k) v9 q := by
    unfold IsHash
    rw [heap_setCell_same hh9, hash_set_rest]
   have hm10 : Mod (fun k => k = tb ∨ k = b ∨ S k) w (w9.setCell ⟨b, 9, none⟩ v9) := ((HM8.out.trans HMR.out (fun _ _ h => h.elim .inl (fun h => .inr (.inl h)))).thenNil hm9).setCell _ _ (fun _ => .inr (.inl rfl))
   have hbr : b < wr.heap.size := heap_lt HLR.out.hash
   have hv10 : IsVec (fun k => w.heap.size ≤ k) (w9.setCell ⟨b, 9, none⟩ v9) 5 1 v9 D.length (bys D) := (hv9.mod ((Mod.refl (· = b) w9).setCell ⟨b, 9, none⟩ v9 (fun _ => rfl)) (fun j _ hj e => by omega)).mono (fun j _ hj => by have := HM8.out.size; have := HMR.out.size; omega)
   have ht10 : IsTab (w9.setCell ⟨b, 9, none⟩ v9) tb := (HTR.out.mod hm9 (not_nil _)).mod ((Mod.refl (· = b) w9).setCell ⟨b, 9, none⟩ v9 (fun _ => rfl)) hne
   have HF := Lib.hid (And.intro hfin (And.intro hv10 (And.intro ht10 hm10)))
   obtain ⟨p9, c9, rfl⟩ := hv9.form
   clear hfin hm10 hv10 ht10 hv9 hm9 hh9
   go_wp2_with fail
   go_end0
   refine HPOST.out _ (w9.setCell ⟨b, 9, none⟩ (.slice p9 D.length c9)) ⟨rfl, ⟨.slice p9 D.length c9, ?_, ?_⟩, HF.out.2.2.1, HF.out.2.2.2⟩
   ·rw [HA.out, HN.out, ← HKK.out, HQM.out]; exact HF.out.1
   ·rw [HA.out, HN.out, ← HKK.out, HD.out]; exact HF.out.2.1
end Go.Proofs.YtdfahddpkkeldaaGreat

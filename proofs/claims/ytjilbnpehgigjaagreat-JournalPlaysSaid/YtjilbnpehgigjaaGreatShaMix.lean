/- Package sha: a block is taken. -/
import Derived.Test.YtjilbnpehgigjaaGreatShort
import Derived.Test.YtjilbnpehgigjaaGreatOnce
import Derived.Test.YtjilbnpehgigjaaGreatRdB
import Derived.Laws.CopyOwn
namespace Go.Proofs.YtjilbnpehgigjaaGreat
open Go.RowKit

def schedL (m : List (BitVec 32)) (i : Nat) : List (BitVec 32) := schedTo m i ++ List.replicate (64 - i) 0#32
theorem schedL_length (m : List (BitVec 32)) (i : Nat) (hi : i ≤ 64) : (schedL m i).length = 64 := by simp [schedL, schedTo_length]; omega
theorem schedL_set (m : List (BitVec 32)) (i : Nat) (hi : i < 64) : (schedL m i).set i (wNext m (schedTo m i) i) = schedL m (i + 1) := by
  unfold schedL
  rw [List.set_append_right _ _ (by rw [schedTo_length]; exact Nat.le_refl _), schedTo_length, Nat.sub_self, show 64 - i = (64 - (i + 1)) + 1 by omega, List.replicate_succ, List.set_cons_zero, schedTo, List.append_assoc]
  rfl
theorem schedL_get (m : List (BitVec 32)) (i j : Nat) (hj : j < i) : (schedL m i).getD j 0 = (schedTo m i).getD j 0 := by
  unfold schedL
  rw [List.getD_eq_getElem?_getD, List.getElem?_append_left (by rw [schedTo_length]; exact hj), List.getD_eq_getElem?_getD]
theorem schedL_zero (m : List (BitVec 32)) (i : Nat) : (schedL m i).getD i 0 = 0#32 := by
  unfold schedL
  rw [List.getD_eq_getElem?_getD, List.getElem?_append_right (by rw [schedTo_length]; exact Nat.le_refl _), schedTo_length, Nat.sub_self, List.getElem?_replicate]
  split <;> rfl
theorem set_self {α : Type} (l : List α) (i : Nat) (d : α) (hi : i < l.length) : l.set i (l.getD i d) = l := by
  rw [List.getD_eq_getElem?_getD, List.getElem?_eq_getElem hi]
  simp
theorem wordOf_snoc (l : List UInt8) (c : UInt8) : wordOf (l ++ [c]) = wordOf l <<< 8 ||| w8 c := by simp [wordOf]
theorem u_w8 (c : UInt8) : (c.toNat : Int) = u (w8 c) := by
  unfold u w8
  simp
theorem mwords_get (b : List UInt8) (i : Nat) (hi : i < 16) : (mwords b).getD i 0 = wordOf ((b.drop (4 * i)).take 4) := by
  unfold mwords
  rw [List.getD_eq_getElem?_getD]
  simp [hi]
theorem take_get (b : List UInt8) (i k : Nat) (h : 4 * i + k < b.length) : (b.drop (4 * i)).take (k + 1) = (b.drop (4 * i)).take k ++ [b.getD (4 * i + k) 0] := by
  rw [List.take_succ_eq_append_getElem (by rw [List.length_drop]; omega), List.getElem_drop, List.getD_eq_getElem?_getD, List.getElem?_eq_getElem h]
  rfl
theorem set_getD {α : Type} (l : List α) (i : Nat) (x : α) {d : α} (h : i < l.length) : (l.set i x).getD i d = x := by
  rw [List.getD_eq_getElem?_getD, List.getElem?_set_self h]
  rfl
/-- a block's word -/
theorem wc_cell {w : World} {g : Nat} {T : TypeId} {fr : Nat × Nat} {l : List (BitVec 32)} (h : w.heap[g]? = some (.cells (wc l).toArray T fr)) (i : Nat) (hi : i < l.length) : w.cell? ⟨g, i, none⟩ = some (.int .u32 (u (l.getD i 0))) := by
  rw [cell_of h, List.getElem?_toArray]
  exact wc_get l i hi
theorem wc_store {w : World} {g : Nat} {T : TypeId} {fr : Nat × Nat} {l : List (BitVec 32)} (h : w.heap[g]? = some (.cells (wc l).toArray T fr)) (i : Nat) (x : BitVec 32) : (w.setCell ⟨g, i, none⟩ (.int .u32 (u x))).heap[g]? = some (.cells (wc (l.set i x)).toArray T fr) := by
  rw [heap_setCell_same h, List.setIfInBounds_toArray, wc_set]
theorem info_u32 : (Tryz.prog.info? 67).map (fun i => (i.zero, i.size, i.bytes)) = some (some (.int .u32 0), 1, 4) := by kernel_rfl
theorem wc_one (l : List (BitVec 32)) : ∀ v ∈ wc l, v.oneCell' = true := by
  intro v hv
  obtain ⟨x, _, rfl⟩ := List.mem_map.1 hv
  rfl
def arr8 (arr : Array Value) (ho : Nat) (v : V8) : Nat → Array Value
  | 0 => arr
  | j + 1 => (arr8 arr ho v j).setIfInBounds (ho + j) (.int .u32 (u (v.list.getD j 0)))
theorem arr8_get (arr : Array Value) (ho : Nat) (V : V8) (i : Nat) : (arr8 arr ho V i)[ho + i]? = arr[ho + i]? := by
  have : ∀ j, j ≤ i → (arr8 arr ho V j)[ho + i]? = arr[ho + i]? := by
    intro j
    induction j with
    | zero => intro _; rfl
    | succ j ih =>
      intro hj
      rw [arr8, Array.getElem?_setIfInBounds_ne (by omega)]
      exact ih (by omega)
  exact this i (Nat.le_refl _)
theorem addV_get (v r : V8) (i : Nat) (hi : i < 8) : (addV v r).list.getD i 0 = v.list.getD i 0 + r.list.getD i 0 := by
  match i, hi with
  | 0, _ => rfl
  | 1, _ => rfl
  | 2, _ => rfl
  | 3, _ => rfl
  | 4, _ => rfl
  | 5, _ => rfl
  | 6, _ => rfl
  | 7, _ => rfl
set_option maxRecDepth 100000 in
set_option maxHeartbeats 4000000 in
theorem shaMix (tb hb ho : Nat) (T : TypeId) (arr : Array Value) (v : V8) (b : List UInt8) (bb bo cb : Nat) (w : World) (ht : IsTab w tb) (hne : tb ≠ hb) (hh : w.heap[hb]? = some (.cells arr T (0, 0)))
    (hv : ∀ j, j < 8 → arr[ho + j]? = some (.int .u32 (u (v.list.getD j 0)))) (hrow : ∀ i, i < 64 → w.cell? ⟨bb, bo + i, none⟩ = some (.int .u8 (b.getD i 0).toNat)) (hl : b.length = 64) (hcb : 64 ≤ cb) :
    Calls Tryz.prog 103 #[.pointer (some ⟨tb, 0, none⟩), .pointer (some ⟨hb, ho, none⟩), .slice (some ⟨bb, bo, none⟩) 64 cb] w fun e w' => e = .returned (.tuple #[]) ∧ IsFull w' tb ∧ w'.heap[hb]? = some (.cells (arr8 arr ho (mixV b v) 8) T (0, 0)) ∧ Mod (fun k => k = tb ∨ k = hb) w w' := by
  have HT := Lib.hid ht
  have HH := Lib.hid hh
  have HV := Lib.hid hv
  have HL := Lib.hid hl
  have HB : Hid (∀ w', Mod nil w w' → ∀ i, i < 64 → w'.cell? ⟨bb, bo + i, none⟩ = some (.int .u8 (b.getD i 0).toNat)) := Lib.hid (fun w' m i hi => cell_kept (hrow i hi) m (World.block_lt_of_cell? _ _ (hrow i hi)) (not_nil _))
  clear ht hh hv hl hrow
  refine (?_ : ∀ Post : Ending → World → Prop, Hid (∀ e w', (e = .returned (.tuple #[]) ∧ IsFull w' tb ∧ w'.heap[hb]? = some (.cells (arr8 arr ho (mixV b v) 8) T (0, 0)) ∧ Mod (fun k => k = tb ∨ k = hb) w w') → Post e w') → Calls Tryz.prog 103 #[.pointer (some ⟨tb, 0, none⟩), .pointer (some ⟨hb, ho, none⟩), .slice (some ⟨bb, bo, none⟩) 64 cb] w Post) _ (Lib.hid (fun _ _ h => h))
  intro Post HPOST
  go_enter Tryz.func103, Tryz.ntmps103
  go_upto_region 1 with (fail)
  obtain ⟨g, hg⟩ : ∃ g, w.heap.size = g := ⟨_, rfl⟩
  obtain ⟨m, hm⟩ : ∃ m, mwords b = m := ⟨_, rfl⟩
  generalize hw1 : w.alloc _ = w1
  have HG1 : Hid (w1.heap[g]? = some (.cells (wc (schedL m 0)).toArray 76 (0, 0))) := Lib.hid (by rw [← hw1, ← hg, heap_alloc_new]; rfl)
  have HM1 : Hid (Mod nil w w1) := Lib.hid (by rw [← hw1]; exact (Mod.refl _ _).alloc _)
  have HGB : Hid (w.heap.size = g) := Lib.hid hg
  rw [hg]
  have HMB := Lib.hid hm
  clear hw1 hg hm
  go_wp2_with fail
  go_loopw [20] (fun v20 wr => ∃ i : Nat, i ≤ 64 ∧ v20 = .int .i64 i ∧ Hid (wr.heap[g]? = some (.cells (wc (schedL m i)).toArray 76 (0, 0))) ∧ Hid (Mod nil w wr)) (fun v _ => 64 - (intOf v).toNat)
  case atStart => exact ⟨0, by omega, rfl, HG1, HM1⟩
  case round =>
    obtain ⟨i, hi, rfl, HG, HM⟩ := hrel
    clear HG1 HM1
    by_cases hlt : i < 64
    · have hbi : decide ((i : Int) < 64) = true := by simp; omega
      have hib : (i : Int) < 64 := by omega
      by_cases h16 : i < 16
      · have hlen := schedL_length m i hi
        have hself := set_self (schedL m i) i 0 (by omega)
        rw [schedL_zero] at hself
        have HSELF := Lib.hid hself
        have HLEN := Lib.hid hlen
        clear hself hlen
        go_wp2_with fail
        go_loopw [33] (fun v33 wx => ∃ k : Nat, k ≤ 4 ∧ v33 = .int .i64 k ∧ Hid (wx.heap[g]? = some (.cells (wc ((schedL m i).set i (wordOf ((b.drop (4 * i)).take k)))).toArray 76 (0, 0))) ∧ Hid (Mod nil w wx)) (fun v _ => 4 - (intOf v).toNat)
        case atStart => exact ⟨0, by omega, rfl, Lib.hid (by rw [List.take_zero, show wordOf [] = 0#32 from rfl, HSELF.out]; exact HG.out), HM⟩
        case round =>
          obtain ⟨k, hk, rfl, HGX, HMX⟩ := hrel
          by_cases hk4 : k < 4
          · have hki : (k : Int) < 4 := by omega
            have hj : 4 * i + k < b.length := by have := HL.out; omega
            have hbc := HB.out _ HMX.out (4 * i + k) (by omega)
            have htk := take_get b i k (by have := HL.out; omega)
            obtain ⟨c, hc⟩ : ∃ c, b.getD (4 * i + k) 0 = c := ⟨_, rfl⟩
            obtain ⟨x, hx⟩ : ∃ x, wordOf ((b.drop (4 * i)).take k) = x := ⟨_, rfl⟩
            rw [hc, ← Nat.add_assoc] at hbc
            rw [hc] at htk
            rw [hx] at HGX
            have hgx := wc_cell HGX.out i (by rw [List.length_set, HLEN.out]; exact hlt)
            rw [set_getD _ _ _ (by rw [HLEN.out]; exact hlt)] at hgx
            have hfr := free_of HGX.out i
            have e1 : u x * (256 : Int) % (4294967296 : Int) = u (x <<< 8) := u_shl x 8
            have e2 : bits .or .u32 (u (x <<< 8)) (c.toNat : Int) = u (x <<< 8 ||| w8 c) := by rw [u_w8, u_or]
            have hcn : c.toNat < 256 := c.toNat_lt
            have hst := wc_store HGX.out i (x <<< 8 ||| w8 c)
            rw [List.set_set] at hst
            have HST := Lib.hid hst
            have HMST : Hid (Mod nil w (wr.setCell ⟨g, i, none⟩ (.int .u32 (u (x <<< 8 ||| w8 c))))) := Lib.hid (HMX.out.setCell _ _ (fun h => by have := HGB.out; simp only at h; omega))
            have HTK : Hid (wordOf ((b.drop (4 * i)).take (k + 1)) = x <<< 8 ||| w8 c) := Lib.hid (by rw [htk, wordOf_snoc, hx])
            generalize c.toNat = cn at hbc e2 hcn
            clear hst htk hc hx
            go_wp2_with fail
            exact ⟨⟨k + 1, by omega, by go_num, Lib.hid (by rw [HTK.out]; exact HST.out), HMST⟩, by simp [intOf]; omega⟩
          · obtain rfl : k = 4 := by omega
            have hnext : wNext m (schedTo m i) i = wordOf ((b.drop (4 * i)).take 4) := by
              unfold wNext
              rw [if_pos h16, ← HMB.out, mwords_get b i h16]
            have hst := HGX.out
            rw [← hnext, schedL_set m i hlt] at hst
            have HST := Lib.hid hst
            clear hnext hst
            go_wp2_with fail
            exact ⟨⟨i + 1, by omega, by go_num, HST, HMX⟩, by simp [intOf]; omega⟩
      · have hlen := schedL_length m i hi
        obtain ⟨i2, h2⟩ : ∃ n : Nat, (i : Int) - 2 = n := ⟨i - 2, by omega⟩
        obtain ⟨i7, h7⟩ : ∃ n : Nat, (i : Int) - 7 = n := ⟨i - 7, by omega⟩
        obtain ⟨i15, h15⟩ : ∃ n : Nat, (i : Int) - 15 = n := ⟨i - 15, by omega⟩
        obtain ⟨i16, hi16⟩ : ∃ n : Nat, (i : Int) - 16 = n := ⟨i - 16, by omega⟩
        have hb2 : i2 < 64 := by omega
        have hb7 : i7 < 64 := by omega
        have hb15 : i15 < 64 := by omega
        have hb16 : i16 < 64 := by omega
        have hnext : wNext m (schedTo m i) i = (schedL m i).getD i16 0 + s0 ((schedL m i).getD i15 0) + (schedL m i).getD i7 0 + s1 ((schedL m i).getD i2 0) := by
          unfold wNext
          rw [if_neg h16, schedL_get m i i16 (by omega), schedL_get m i i15 (by omega), schedL_get m i i7 (by omega), schedL_get m i i2 (by omega), show i - 16 = i16 by omega, show i - 15 = i15 by omega, show i - 7 = i7 by omega, show i - 2 = i2 by omega]
        have q2 := wc_cell HG.out i2 (by omega)
        have q7 := wc_cell HG.out i7 (by omega)
        have q15 := wc_cell HG.out i15 (by omega)
        have q16 := wc_cell HG.out i16 (by omega)
        generalize (schedL m i).getD i2 0 = x2 at q2 hnext
        generalize (schedL m i).getD i7 0 = x7 at q7 hnext
        generalize (schedL m i).getD i15 0 = x15 at q15 hnext
        generalize (schedL m i).getD i16 0 = x16 at q16 hnext
        have HN := Lib.hid hnext
        have HLEN := Lib.hid hlen
        have hii2 : i2 ≠ i := by omega
        have hii7 : i7 ≠ i := by omega
        have hii15 : i15 ≠ i := by omega
        have hii16 : i16 ≠ i := by omega
        clear hlen hnext
        go_upto_region 10 with (fail)
        go_quiet (fail)
        generalize hd : wr.drewN _ = w2
        have HG2 : Hid (w2.heap[g]? = some (.cells (wc (schedL m i)).toArray 76 (0, 0))) := Lib.hid (by rw [← hd]; exact HG.out)
        have HM2 : Hid (Mod nil w w2) := Lib.hid (by rw [← hd]; exact HM.out.drewN _)
        replace q7 : w2.cell? ⟨g, i7, none⟩ = some (.int .u32 (u x7)) := by rw [← hd]; exact q7
        replace q16 : w2.cell? ⟨g, i16, none⟩ = some (.int .u32 (u x16)) := by rw [← hd]; exact q16
        clear hd q2 q15
        have f1 := u_xor (ror x15 7) (ror x15 18)
        have f2 : u x15 / (8 : Int) = u (x15 >>> 3) := u_shr x15 3
        have f3 := u_xor (ror x15 7 ^^^ ror x15 18) (x15 >>> 3)
        rw [← s0] at f3
        go_wp2_with fail
        refine (rot7 x15 _).mono ?_
        rintro e w3 ⟨rfl, rfl⟩
        go_wp2_with fail
        refine (rot18 x15 _).mono ?_
        rintro e w3 ⟨rfl, rfl⟩
        have f4 := u_xor (ror x2 17) (ror x2 19)
        have f5 : u x2 / (1024 : Int) = u (x2 >>> 10) := u_shr x2 10
        have f6 := u_xor (ror x2 17 ^^^ ror x2 19) (x2 >>> 10)
        rw [← s1] at f6
        go_wp2_with fail
        refine (rot17 x2 _).mono ?_
        rintro e w3 ⟨rfl, rfl⟩
        go_wp2_with fail
        refine (rot19 x2 _).mono ?_
        rintro e w3 ⟨rfl, rfl⟩
        clear f1 f2 f3
        have a1 := u_add x16 (s0 x15)
        have a2 := u_add (x16 + s0 x15) x7
        have a3 := u_add (x16 + s0 x15 + x7) (s1 x2)
        go_upto_region 13 with (fail)
        clear f4 f5 f6
        have hgi := wc_cell HG2.out i (by rw [HLEN.out]; exact hlt)
        have hfr := free_of HG2.out i
        have cs7 : ∀ x : Value, (w2.setCell ⟨g, i, none⟩ x).cell? ⟨g, i7, none⟩ = some (.int .u32 (u x7)) := fun x => (World.cell?_setCell_other _ ⟨g, i, none⟩ ⟨g, i7, none⟩ _ (by simp <;> omega)).trans q7
        have cs16 : ∀ x : Value, (w2.setCell ⟨g, i, none⟩ x).cell? ⟨g, i16, none⟩ = some (.int .u32 (u x16)) := fun x => (World.cell?_setCell_other _ ⟨g, i, none⟩ ⟨g, i16, none⟩ _ (by simp <;> omega)).trans q16
        have hst := wc_store HG2.out i (x16 + s0 x15 + x7 + s1 x2)
        rw [← HN.out, schedL_set m i hlt, HN.out] at hst
        have HST := Lib.hid hst
        have HMST : Hid (Mod nil w (w2.setCell ⟨g, i, none⟩ (.int .u32 (u (x16 + s0 x15 + x7 + s1 x2))))) := Lib.hid (HM2.out.setCell _ _ (fun h => by have := HGB.out; simp only at h; omega))
        clear hst hii2 hii7 hii15 hii16
        have hc16 : (i16 : Int) < 64 := by omega
        have hc7 : (i7 : Int) < 64 := by omega
        have hw16 : IntKind.i64.wrap (i16 : Int) = (i16 : Int) := by rw [IntKind.wrap_i64]; omega
        have hw7 : IntKind.i64.wrap (i7 : Int) = (i7 : Int) := by rw [IntKind.wrap_i64]; omega
        go_region_held3 (fun w' => w'.cell? ⟨g, i7, none⟩ = some (.int .u32 (u x7)) ∧ w'.cell? ⟨g, i16, none⟩ = some (.int .u32 (u x16))) (first | exact ⟨q7, q16⟩ | exact ⟨cs7 _, cs16 _⟩) (fail)
        go_wp2_with fail
        exact ⟨⟨i + 1, by omega, by go_num, HST, Lib.hid HMST.out.drew⟩, by simp [intOf]; omega⟩
    · obtain rfl : i = 64 := by omega
      simp only [Int.cast_ofNat_Int]
      have hsl : schedL m 64 = schedTo m 64 := by simp [schedL]
      obtain ⟨ws, hws⟩ : ∃ ws, schedTo m 64 = ws := ⟨_, rfl⟩
      have hwl : ws.length = 64 := by rw [← hws, schedTo_length]
      rw [hsl, hws] at HG
      have HWS := Lib.hid hws
      have HWL := Lib.hid hwl
      have hbT : hb < g := by have := heap_lt HH.out; have := HGB.out; omega
      have hbTT : tb < g := by have := HT.out.lt; have := HGB.out; omega
      have hcell : ∀ j, j < 8 → wr.cell? ⟨hb, ho + j, none⟩ = some (.int .u32 (u (v.list.getD j 0))) := fun j hj => (cell_of (HM.out.keep HH.out) (ho + j)).trans (HV.out j hj)
      have q0 := hcell 0 (by omega)
      have q1 := hcell 1 (by omega)
      have q2 := hcell 2 (by omega)
      have q3 := hcell 3 (by omega)
      have q4 := hcell 4 (by omega)
      have q5 := hcell 5 (by omega)
      have q6 := hcell 6 (by omega)
      have q7 := hcell 7 (by omega)
      rw [Nat.add_zero] at q0
      clear hsl hws hwl hcell hlt hi
      go_upto_region 16 with (fail)
      clear q0 q1 q2 q3 q4 q5 q6 q7
      obtain ⟨gv, hgv⟩ : ∃ gv, wr.heap.size = gv := ⟨_, rfl⟩
      generalize hw2 : wr.alloc _ = w2
      have HGV : Hid (w2.heap[gv]? = some (.cells (wc v.list).toArray 77 (0, 0))) := Lib.hid (by rw [← hw2, ← hgv, heap_alloc_new]; rfl)
      have hm2 : Mod nil wr w2 := by rw [← hw2]; exact (Mod.refl _ _).alloc _
      have HG2 := Lib.hid (hm2.keep HG.out)
      have HM2 := Lib.hid (HM.out.thenNil hm2)
      have hggv : g < gv := by have := heap_lt HG.out; omega
      rw [hgv]
      clear hw2 hm2 hgv HM HG
      go_wp2_with fail
      go_loopw [90] (fun v90 wx => ∃ i : Nat, i ≤ 64 ∧ v90 = .int .i64 i ∧ Hid (wx.heap[gv]? = some (.cells (wc (rounds kTab ws v i).list).toArray 77 (0, 0))) ∧ Hid (wx.heap[g]? = some (.cells (wc ws).toArray 76 (0, 0))) ∧ Hid (IsTab wx tb ∧ (0 < i → IsFull wx tb)) ∧ Hid (Mod (· = tb) w wx)) (fun v _ => 64 - (intOf v).toNat)
      case atStart => exact ⟨0, by omega, rfl, HGV, HG2, Lib.hid ⟨HT.out.mod HM2.out (not_nil _), fun h => by omega⟩, Lib.hid HM2.out.ofNil⟩
      case round =>
        obtain ⟨i, hi, rfl, HGX, HWX, HTX, HMX⟩ := hrel
        clear HGV HG2 HM2
        by_cases hlt : i < 64
        · have hbi : decide ((i : Int) < 64) = true := by simp; omega
          have hib : (i : Int) < 64 := by omega
          obtain ⟨r, hr⟩ : ∃ r, rounds kTab ws v i = r := ⟨_, rfl⟩
          obtain ⟨k, hk⟩ : ∃ k, kTab.getD i 0 = k := ⟨_, rfl⟩
          obtain ⟨x, hx⟩ : ∃ x, ws.getD i 0 = x := ⟨_, rfl⟩
          have hnext : rounds kTab ws v (i + 1) = roundV r k x := by rw [rounds, hr, hk, hx]
          rw [hr] at HGX
          have HNEXT := Lib.hid hnext
          have HK := Lib.hid hk
          have qx := wc_cell HWX.out i (by rw [HWL.out]; exact hlt)
          rw [hx] at qx
          clear hr hk hx hnext
          obtain ⟨ra, rb, rc, rd, re, rf, rg, rh⟩ := r
          have q0 := wc_cell HGX.out 0 (by simp [V8.list])
          have q1 := wc_cell HGX.out 1 (by simp [V8.list])
          have q2 := wc_cell HGX.out 2 (by simp [V8.list])
          have q3 := wc_cell HGX.out 3 (by simp [V8.list])
          have q4 := wc_cell HGX.out 4 (by simp [V8.list])
          have q5 := wc_cell HGX.out 5 (by simp [V8.list])
          have q6 := wc_cell HGX.out 6 (by simp [V8.list])
          have q7 := wc_cell HGX.out 7 (by simp [V8.list])
          simp only [V8.list, List.getD_cons_zero, List.getD_cons_succ] at q0 q1 q2 q3 q4 q5 q6 q7
          have HQ : Hid (∀ w', Mod (· = tb) wr w' → w'.cell? ⟨gv, 5, none⟩ = some (.int .u32 (u rf)) ∧ w'.cell? ⟨gv, 6, none⟩ = some (.int .u32 (u rg)) ∧ w'.cell? ⟨gv, 7, none⟩ = some (.int .u32 (u rh)) ∧ w'.cell? ⟨g, i, none⟩ = some (.int .u32 (u x))) := Lib.hid (fun w' m' => by
            have k1 := heap_lt HGX.out
            have k2 := heap_lt HWX.out
            exact ⟨cell_kept q5 m' k1 (by omega), cell_kept q6 m' k1 (by omega), cell_kept q7 m' k1 (by omega), cell_kept qx m' k2 (by omega)⟩)
          go_upto_region 19 with (fail)
          go_quiet (fail)
          generalize hd : wr.drewN _ = w3
          have hm3 : Mod (· = tb) wr w3 := by rw [← hd]; exact (Mod.refl _ _).drewN _
          have HM3 := Lib.hid hm3
          have HT3 : Hid (IsTab w3 tb) := Lib.hid (by rw [← hd]; exact HTX.out.1)
          clear hd hm3 q0 q1 q2 q3 q4 q5 q6 q7 qx
          have f1 := u_xor (ror re 6) (ror re 11)
          have f2 := u_xor (ror re 6 ^^^ ror re 11) (ror re 25)
          rw [← bigS1] at f2
          go_wp2_with fail
          refine (rot6 re _).mono ?_
          rintro e w5 ⟨rfl, rfl⟩
          go_wp2_with fail
          refine (rot11 re _).mono ?_
          rintro e w5 ⟨rfl, rfl⟩
          go_wp2_with fail
          refine (rot25 re _).mono ?_
          rintro e w5 ⟨rfl, rfl⟩
          go_upto_region 21 with (fail)
          clear f1 f2
          have hnx : ∀ (n : Int) (w : World), (Op.unary .xor (.int .u32 n)).run Tryz.prog w = .ok (.int .u32 (bits .xor .u32 4294967295 n)) w := fun _ _ => rfl
          have n1 := u_and re rf
          have n2 := u_notw re
          have n3 := u_and (~~~re) rg
          have n4 := u_xor (re &&& rf) (~~~re &&& rg)
          have a1 := u_addw rh (bigS1 re)
          have a2 := u_addw (rh + bigS1 re) ((re &&& rf) ^^^ (~~~re &&& rg))
          have a3 := u_addw (rh + bigS1 re + ((re &&& rf) ^^^ (~~~re &&& rg))) k
          have a4 : IntKind.u32.wrap (u (rh + bigS1 re + ((re &&& rf) ^^^ (~~~re &&& rg)) + k) + u x) = u (oneV ⟨ra, rb, rc, rd, re, rf, rg, rh⟩ k x) := u_addw _ _
--R21
          refine wp_region_held_drew (S := (fun w' => w'.cell? ⟨gv, 5, none⟩ = some (.int .u32 (u rf)) ∧ w'.cell? ⟨gv, 6, none⟩ = some (.int .u32 (u rg)) ∧ w'.cell? ⟨gv, 7, none⟩ = some (.int .u32 (u rh)) ∧ w'.cell? ⟨g, i, none⟩ = some (.int .u32 (u x)))) (by kernel_rfl) (HQ.out _ HM3.out.drew) (fun hHeld => ?_)
          refine tH 0 ?_
          (try simp only [Act.put, pT])
          refine tH 1 ?_
          (try simp only [Act.put, pT])
          refine tH 2 ?_
          (try simp only [Act.put, pT])
          refine tH 3 ?_
          (try simp only [Act.put, pT])
          refine tH 4 ?_
          (try simp only [Act.put, pT])
          refine tH 5 ?_
          (try simp only [Act.put, pT])
          refine tH 6 ?_
          (try simp only [Act.put, pT])
          refine tH 7 ?_
          (try simp only [Act.put, pT])
          refine tH 8 ?_
          (try simp only [Act.put, pT])
          refine tH 9 ?_
          (try simp only [Act.put, pT])
          refine tH 10 ?_
          (try simp only [Act.put, pT])
          refine tH 11 ?_
          (try simp only [Act.put, pT])
          refine tH 12 ?_
          (try simp only [Act.put, pT])
          refine tH 13 ?_
          (try simp only [Act.put, pT])
          refine tH 14 ?_
          (try simp only [Act.put, pT])
          refine tH 15 ?_
          (try simp only [Act.put, pT])
          refine tH 16 ?_
          (try simp only [Act.put, pT])
          refine tH 19 ?_
          (try simp only [Act.put, pT])
          refine tH 20 ?_
          (try simp only [Act.put, pT])
          refine tH 21 ?_
          (try simp only [Act.put, pT])
          refine wpAnyH_ready (rs := [17]) (by kernel_rfl) (by simp) ?_
          refine AllReadyH.cons (i := 17) rfl (fun K hK => ?_) AllReadyH.nil
          (try dsimp (config := { proj := false }) only [g0, g1, g2])
          go_simp
          go_at_call 118
          refine (shaWord tb i hlt _ (HT3.out.mod (Mod.refl Go.Proofs.YtjilbnpehgigjaaGreat.nil w3).drew (not_nil _))).mono ?_
          rw [HK.out]
          rintro e w6 ⟨rfl, hf6, hm6⟩
          have HF6 := Lib.hid hf6
          have HM6 := Lib.hid (HM3.out.drew.trans hm6 (fun _ _ h => h))
          clear hf6 hm6
          dsimp only
          refine hK.out _ _ (HQ.out _ HM6.out) (fun hHeld => ?_)
          clear hK K
          (try simp only [Act.put, pT])
          refine tH 18 ?_
          (try simp only [Act.put, pT])
          refine tH 22 ?_
          (try simp only [Act.put, pT])
          refine tH 23 ?_
          (try simp only [Act.put, pT])
          refine wpAnyH_done (by kernel_rfl) ?_ _
--R21END
          have f1 := u_xor (ror ra 2) (ror ra 13)
          have f2 := u_xor (ror ra 2 ^^^ ror ra 13) (ror ra 22)
          rw [← bigS0] at f2
          clear n1 n2 n3 n4 a1 a2 a3 a4 hnx
          have HGX6 : Hid (w6.heap[gv]? = some (.cells (wc [ra, rb, rc, rd, re, rf, rg, rh]).toArray 77 (0, 0))) := Lib.hid (by
            rw [HM6.out.block gv (heap_lt HGX.out) (by omega)]; exact HGX.out)
          go_wp2_with fail
          refine (rot2 ra _).mono ?_
          rintro e w7 ⟨rfl, rfl⟩
          go_wp2_with fail
          refine (rot13 ra _).mono ?_
          rintro e w7 ⟨rfl, rfl⟩
          go_wp2_with fail
          refine (rot22 ra _).mono ?_
          rintro e w7 ⟨rfl, rfl⟩
          have p1 := wc_cell HGX6.out 1 (by simp)
          have p2 := wc_cell HGX6.out 2 (by simp)
          simp only [List.getD_cons_zero, List.getD_cons_succ] at p1 p2
          have n1 := u_and ra rb
          have n2 := u_and ra rc
          have n3 := u_xor (ra &&& rb) (ra &&& rc)
          have n4 := u_and rb rc
          have n5 := u_xor ((ra &&& rb) ^^^ (ra &&& rc)) (rb &&& rc)
          have n6 : (u (bigS0 ra) + u (((ra &&& rb) ^^^ (ra &&& rc)) ^^^ (rb &&& rc))) % (4294967296 : Int) = u (twoV ⟨ra, rb, rc, rd, re, rf, rg, rh⟩) := u_add _ _
          go_upto_region 24 with (fail)
          (try simp only [n6])
          clear n1 n2 n3 n4 n5 f1 f2 p1 p2
          obtain ⟨i0, hi0, hz0, hz1, hz2⟩ := info_parts info_u32
          have hsz : (Tryz.prog.info? 67).map (·.size) = some 1 := by rw [hi0]; simp [hz1]
          have hsrc : ∀ j y, (wc [ra, rb, rc, rd, re, rf, rg])[j]? = some y → w6.drew.cell? ((⟨gv, 0, none⟩ : Addr).add j) = some y := fun j y hj => by
            have hj7 : j < 7 := by have := (List.getElem?_eq_some_iff.1 hj).1; simpa [wc] using this
            have h1 := cell_of HGX6.out j
            have h2 : (⟨gv, 0, none⟩ : Addr).add j = ⟨gv, j, none⟩ := by unfold Addr.add; split <;> simp_all
            rw [h2]
            refine Eq.trans (show w6.drew.cell? ⟨gv, j, none⟩ = _ from h1) ?_
            rw [List.getElem?_toArray, show wc [ra, rb, rc, rd, re, rf, rg, rh] = wc [ra, rb, rc, rd, re, rf, rg] ++ wc [rh] from rfl, List.getElem?_append_left (by simpa [wc] using hj7)]
            exact hj
          have HSRC := Lib.hid hsrc
          clear hsrc
          go_region_held3 (fun _ => True) (trivial) (first
            | (refine step_copy_splice rfl (.tmp 153) (.tmp 154) 133 133 rfl 67 Tryz.underlying133 hsz _ _ 7 7 7 8 rfl rfl gv 1 (wc [ra, rb, rc, rd, re, rf, rg, rh]) 77 HGX6.out (wc [ra, rb, rc, rd, re, rf, rg]) rfl (fun _ => ⟨rfl, _, rfl, HSRC.out⟩) (by simp [wc]) (wc_one _) gv w6.drew (Below.refl _ _) (Nat.le_refl _) ?_; intro w7 hg7 hb7))
          have HG7 : Hid (w7.heap[gv]? = some (.cells (wc [ra, ra, rb, rc, rd, re, rf, rg]).toArray 77 (0, 0))) := Lib.hid hg7
          have HM7 : Hid (Mod (fun k => gv ≤ k) w6 w7) := Lib.hid ⟨hb7.os, hb7.tape, hb7.output, hb7.size, fun k _ hn => hb7.block k (by omega)⟩
          clear hg7 hb7 hi0 hz0 hz1 hz2 hsz HSRC
          have p4 := wc_cell HG7.out 4 (by simp)
          simp only [List.getD_cons_zero, List.getD_cons_succ] at p4
          have fr4 := free_of HG7.out 4
          clear n6
          have n1 : (u rd + u (oneV ⟨ra, rb, rc, rd, re, rf, rg, rh⟩ k x)) % (4294967296 : Int) = u (rd + oneV ⟨ra, rb, rc, rd, re, rf, rg, rh⟩ k x) := u_add _ _
          have HG8 := Lib.hid (wc_store HG7.out 4 (rd + oneV ⟨ra, rb, rc, rd, re, rf, rg, rh⟩ k x))
          have p0 := wc_cell HG8.out 0 (by simp)
          have fr0 := free_of HG8.out 0
          have HG9 := Lib.hid (wc_store HG8.out 0 (oneV ⟨ra, rb, rc, rd, re, rf, rg, rh⟩ k x + twoV ⟨ra, rb, rc, rd, re, rf, rg, rh⟩))
          have n2 : (u (oneV ⟨ra, rb, rc, rd, re, rf, rg, rh⟩ k x) + u (twoV ⟨ra, rb, rc, rd, re, rf, rg, rh⟩)) % (4294967296 : Int) = u (oneV ⟨ra, rb, rc, rd, re, rf, rg, rh⟩ k x + twoV ⟨ra, rb, rc, rd, re, rf, rg, rh⟩) := u_add _ _
          have HM9 : Hid (Mod (fun k => gv ≤ k) w6 ((w7.setCell ⟨gv, 4, none⟩ (.int .u32 (u (rd + oneV ⟨ra, rb, rc, rd, re, rf, rg, rh⟩ k x)))).setCell ⟨gv, 0, none⟩ (.int .u32 (u (oneV ⟨ra, rb, rc, rd, re, rf, rg, rh⟩ k x + twoV ⟨ra, rb, rc, rd, re, rf, rg, rh⟩))))) := Lib.hid ((HM7.out.setCell _ _ (fun _ => Nat.le_refl _)).setCell _ _ (fun _ => Nat.le_refl _))
          go_wp2_with fail
          generalize ((w7.setCell ⟨gv, 4, none⟩ (.int .u32 (u (rd + oneV ⟨ra, rb, rc, rd, re, rf, rg, rh⟩ k x)))).setCell ⟨gv, 0, none⟩ (.int .u32 (u (oneV ⟨ra, rb, rc, rd, re, rf, rg, rh⟩ k x + twoV ⟨ra, rb, rc, rd, re, rf, rg, rh⟩)))) = w9 at HG9 HM9 ⊢
          refine ⟨⟨i + 1, by omega, by go_num, Lib.hid (by rw [HNEXT.out]; exact HG9.out), Lib.hid ?_, Lib.hid ?_, Lib.hid ?_⟩, by simp [intOf]; omega⟩
          · have k2 := heap_lt HWX.out
            have k3 := HM6.out.size
            rw [HM9.out.block g (by omega) (by omega), HM6.out.block g k2 (by omega)]
            exact HWX.out
          · have hf : IsFull w9 tb := (HM9.out.block tb (heap_lt HF6.out) (by omega)).trans HF6.out
            exact ⟨full_tab hf, fun _ => hf⟩
          · have k1 := HMX.out.size
            have k2 := HGB.out
            exact (HMX.out.trans HM6.out (fun _ _ h => h)).trans HM9.out (fun j hj h => by omega)
        · obtain rfl : i = 64 := by omega
          simp only [Int.cast_ofNat_Int]
          obtain ⟨r, hr⟩ : ∃ r, rounds kTab ws v 64 = r := ⟨_, rfl⟩
          rw [hr] at HGX
          have hmix : mixV b v = addV v r := by rw [← hr, ← HWS.out, ← HMB.out]; rfl
          have HMIX := Lib.hid hmix
          have HFX := Lib.hid (HTX.out.2 (by omega))
          clear hr hmix hlt hi
          have hhx : wr.heap[hb]? = some (.cells arr T (0, 0)) := by
            have := HH.out
            rw [HMX.out.block hb (heap_lt this) (by omega)]; exact this
          have HHX := Lib.hid hhx
          clear hhx
          go_wp2_with fail
          go_loopw [166] (fun v166 wx => ∃ i : Nat, i ≤ 8 ∧ v166 = .int .i64 i ∧ Hid (wx.heap[hb]? = some (.cells (arr8 arr ho (addV v r) i) T (0, 0))) ∧ Hid (wx.heap[gv]? = some (.cells (wc r.list).toArray 77 (0, 0))) ∧ Hid (IsFull wx tb) ∧ Hid (Mod (fun k => k = tb ∨ k = hb) w wx)) (fun v _ => 8 - (intOf v).toNat)
          case atStart => exact ⟨0, by omega, rfl, HHX, HGX, HFX, Lib.hid (HMX.out.mono (fun _ _ h => .inl h))⟩
          case round =>
            obtain ⟨i, hi, rfl, HHY, HGY, HFY, HMY⟩ := hrel
            by_cases hlt : i < 8
            · have hbi : decide ((i : Int) < 8) = true := by simp; omega
              have hib : (i : Int) < 8 := by omega
              obtain ⟨a, ha⟩ : ∃ a, v.list.getD i 0 = a := ⟨_, rfl⟩
              obtain ⟨c, hc⟩ : ∃ c, r.list.getD i 0 = c := ⟨_, rfl⟩
              have qh : wr.cell? ⟨hb, ho + i, none⟩ = some (.int .u32 (u a)) := by rw [cell_of HHY.out, arr8_get, HV.out i hlt, ha]
              have qv := wc_cell HGY.out i (by simpa [V8.list] using hlt)
              rw [hc] at qv
              have fr := free_of HHY.out (ho + i)
              have n1 := u_addw a c
              have hsum : (addV v r).list.getD i 0 = a + c := by rw [← ha, ← hc]; exact addV_get v r i hlt
              have hst := heap_setCell_same (off := ho + i) HHY.out (.int .u32 (u (a + c)))
              rw [← hsum] at hst
              have HST : Hid ((wr.setCell ⟨hb, ho + i, none⟩ (.int .u32 (u (a + c)))).heap[hb]? = some (.cells (arr8 arr ho (addV v r) (i + 1)) T (0, 0))) := Lib.hid (by rw [← hsum]; exact hst)
              have HMST : Hid (Mod (fun k => k = tb ∨ k = hb) w (wr.setCell ⟨hb, ho + i, none⟩ (.int .u32 (u (a + c)))).drew) := Lib.hid ((HMY.out.setCell _ _ (fun _ => .inr rfl)).drew)
              have HGST : Hid ((wr.setCell ⟨hb, ho + i, none⟩ (.int .u32 (u (a + c)))).heap[gv]? = some (.cells (wc r.list).toArray 77 (0, 0))) := Lib.hid (by rw [heap_setCell_other _ (by omega)]; exact HGY.out)
              have HFST : Hid (IsFull (wr.setCell ⟨hb, ho + i, none⟩ (.int .u32 (u (a + c)))) tb) := Lib.hid ((heap_setCell_other _ hne).trans HFY.out)
              clear ha hc hsum hst
              go_upto_region 31 with (fail)
--R31
              refine region_till (fun w' => w'.cell? ⟨hb, ho + i, none⟩ = some (.int .u32 (u a)) ∧ w'.cell? ⟨gv, i, none⟩ = some (.int .u32 (u c))) 8 (by kernel_rfl) ?_
              refine tF 0 (fun _ => ⟨qh, qv⟩) ?_
              (try simp only [Act.put, pT])
              (try simp only [Act.put, pT])
              refine tF 1 (fun _ => ⟨qh, qv⟩) ?_
              (try simp only [Act.put, pT])
              (try simp only [Act.put, pT])
              refine tF 2 (fun _ => ⟨qh, qv⟩) ?_
              (try simp only [Act.put, pT])
              (try simp only [Act.put, pT])
              refine tF 3 (fun _ => ⟨qh, qv⟩) ?_
              (try simp only [Act.put, pT])
              (try simp only [Act.put, pT])
              refine tT 4 (⟨qh, qv⟩) ?_
              (try simp only [Act.put, pT])
              (try simp only [Act.put, pT])
              refine tF 5 (fun _ => ⟨qh, qv⟩) ?_
              (try simp only [Act.put, pT])
              (try simp only [Act.put, pT])
              refine tF 6 (fun _ => ⟨qh, qv⟩) ?_
              (try simp only [Act.put, pT])
              (try simp only [Act.put, pT])
              refine tT 7 (⟨qh, qv⟩) ?_
              (try simp only [Act.put, pT])
              (try simp only [Act.put, pT])
              refine tF 9 (fun _ => ⟨qh, qv⟩) ?_
              (try simp only [Act.put, pT])
              (try simp only [Act.put, pT])
              refine till_ready (rs := [8]) (by kernel_rfl) (by simp) ?_
              refine till_cons (i := 8) rfl (fun K hK => ?_) till_nil
              (try dsimp (config := { proj := false }) only [g0, g1, g2])
              go_simp
              refine hK.out _ _ (fun h => (by simp at h)) ?_
              clear hK K
              (try simp only [Act.put, pT])
              refine tF 10 (fun _ => ⟨qh, qv⟩) ?_
              (try simp only [Act.put, pT])
              (try simp only [Act.put, pT])
              refine till_ready (rs := [11]) (by kernel_rfl) (by simp) ?_
              refine till_cons (i := 11) rfl (fun K hK => ?_) till_nil
              (try dsimp (config := { proj := false }) only [g0, g1, g2])
              go_simp
              refine hK.out _ _ (fun h => (by simp at h)) ?_
              clear hK K
              (try simp only [Act.put, pT])
              refine till_done (by kernel_rfl) ?_ _
--R31END
              go_wp2_with fail
              exact ⟨⟨i + 1, by omega, by go_num, HST, HGST, HFST, HMST⟩, by simp [intOf]; omega⟩
            · obtain rfl : i = 8 := by omega
              go_wp2_with fail
              go_end0
              refine HPOST.out _ _ ⟨rfl, HFY.out, ?_, HMY.out⟩
              rw [HMIX.out]
              exact HHY.out
end Go.Proofs.YtjilbnpehgigjaaGreat

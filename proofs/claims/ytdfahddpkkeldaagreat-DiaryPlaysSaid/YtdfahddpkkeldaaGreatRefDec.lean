/- cflref1: Dec. (Printed by wip/tools/gen_refdec.py.) -/
import Derived.Test.YtdfahddpkkeldaaGreatCut
import Derived.Test.YtdfahddpkkeldaaGreatWireB
import Derived.Test.YtdfahddpkkeldaaGreatBytesB
import Derived.Test.YtdfahddpkkeldaaGreatRefLists
namespace Go.Proofs.YtdfahddpkkeldaaGreat
open Go.RowKit
/-- the reference's reader: what is left, and its error -/
structure IsRDec (S : Nat → Prop) (w : World) (b : Nat) (l : List UInt8) (e : Int) : Prop where
 ex : ∃ p q, l.length ≤ q ∧ q ≤ maxLen ∧ w.heap[b]? = some (.cells #[.slice p l.length q, .int .i64 e] 148 (0, 0)) ∧ IsRow S w (.slice p l.length q) (bys l)
theorem IsRDec.mod {S T : Nat → Prop} {w w' : World} {b : Nat} {l : List UInt8} {e : Int} (h : IsRDec S w b l e) (m : Mod T w w') (hb : ¬ T b) (hs : ∀ k, k < w.heap.size → S k → ¬ T k) : IsRDec S w' b l e := by
 obtain ⟨p, q, h1, h2, h3, h4⟩ := h.ex
 exact ⟨p, q, h1, h2, (m.block b (heap_lt h3) hb).trans h3, h4.mod m hs⟩
theorem IsRDec.lt {S : Nat → Prop} {w : World} {b : Nat} {l : List UInt8} {e : Int} (h : IsRDec S w b l e) : b < w.heap.size := by
 obtain ⟨p, q, h1, h2, h3, h4⟩ := h.ex
 exact heap_lt h3
theorem IsRDec.mono {S T : Nat → Prop} {w : World} {b : Nat} {l : List UInt8} {e : Int} (h : IsRDec S w b l e) (hs : ∀ k, k < w.heap.size → S k → T k) : IsRDec T w b l e := by
 obtain ⟨p, q, h1, h2, h3, h4⟩ := h.ex
 exact ⟨p, q, h1, h2, h3, h4.mono hs⟩
set_option maxRecDepth 100000 in
set_option maxHeartbeats 2000000 in
theorem refDNum (S : Nat → Prop) (b : Nat) (l : List UInt8) (er : Int) (size : Nat) (sz : Int) (w : World) {x e2 : Int} {l2 : List UInt8} (h : IsRDec S w b l er) (hS : ¬ S b) (hs : sz = (size : Int)) (h1 : 1 ≤ size) (h8 : size ≤ 8) (hd : decN l er size = (x, l2, e2)) :
  Calls Tryz.prog 86 #[.pointer (some ⟨b, 0, none⟩), .int .i64 sz] w fun e w' => e = .returned (.int .i64 x) ∧ IsRDec S w' b l2 e2 ∧ Mod (· = b) w w' := by
 refine (?_ : ∀ Post : Ending → World → Prop, Hid (∀ e w', (e = .returned (.int .i64 x) ∧ IsRDec S w' b l2 e2 ∧ Mod (· = b) w w') → Post e w') → Calls Tryz.prog 86 #[.pointer (some ⟨b, 0, none⟩), .int .i64 sz] w Post) _ (Lib.hid (fun _ _ h => h))
 intro Post HPOST
 have HH := Lib.hid h
 obtain ⟨p, q, hq, hqm, hb, hrow⟩ := h.ex
 obtain ⟨N, hN⟩ : ∃ N, l.length = N := ⟨_, rfl⟩
 rw [hN] at hq hb hrow
 have c0 := cell_of hb 0
 have c1 := cell_of hb 1
 have z0 := free_of hb 0
 have z1 := free_of hb 1
 simp only [List.getElem?_toArray, List.getElem?_cons_zero, List.getElem?_cons_succ] at c0 c1
 have HB := Lib.hid hb
 have HROW := Lib.hid hrow
 have HN := Lib.hid hN
 have HSZ := Lib.hid hs
 have s1 : ¬ sz < 1 := by omega
 have s8 : ¬ 8 < sz := by omega
 unfold maxLen at hqm
 have m1 : ∀ v, Mod (· = b) w (w.setCell ⟨b, 1, none⟩ v) := fun v => (Mod.refl (· = b) w).setCell _ _ (fun _ => rfl)
 have HBAD : Hid (x = 0 → l2 = l → e2 = 2 → Post (.returned (.int .i64 0)) (w.setCell ⟨b, 1, none⟩ (.int .i64 2))) := Lib.hid (fun h3 h4 h5 => HPOST.out _ _ ⟨by rw [h3], by
  rw [h4, h5]
  exact ⟨p, q, by rw [HN.out]; exact hq, by unfold maxLen; omega, by rw [HN.out]; exact heap_setCell_same HB.out _ (off := 1), by rw [HN.out]; exact HROW.out.mod (m1 _) (fun k _ h e => hS (e ▸ h))⟩, m1 _⟩)
 clear h hb hrow hN hs m1
 by_cases he : er = 0
 case neg =>
  have e1 : (er != 0) = true := by simpa using he
  have e0 : (er == 0) = false := by simpa using he
  have hdd : decN l er size = (0, l, er) := by unfold decN; rw [if_pos he]
  rw [hdd] at hd
  simp only [Prod.mk.injEq] at hd
  obtain ⟨rfl, rfl, rfl⟩ := hd
  have HE := Lib.hid (HPOST.out (.returned (.int .i64 0)) w ⟨rfl, HH.out, Mod.refl _ _⟩)
  clear hdd he
  go_enter Tryz.func86, Tryz.ntmps86
  go_wp2_with fail
  exact HE.out
 subst he
 by_cases hbig : N < size
 case pos =>
  have hdd : decN l 0 size = (0, l, 2) := by
   have hn : numF l size = (0, 2) := by unfold numF; rw [if_pos (by rw [HN.out]; exact hbig)]
   unfold decN; rw [if_neg (by simp), hn, if_pos (by simp)]
  rw [hdd] at hd
  simp only [Prod.mk.injEq] at hd
  obtain ⟨rfl, rfl, rfl⟩ := hd
  have HE := Lib.hid (HBAD.out rfl rfl rfl)
  have hc : (N : Int) < sz := by have := HSZ.out; omega
  clear hdd hbig
  go_enter Tryz.func86, Tryz.ntmps86
  go_wp2_with fail
  exact HE.out
 have hc : ¬ (N : Int) < sz := by have := HSZ.out; omega
 have HD := Lib.hid hd
 clear hd
 go_enter Tryz.func86, Tryz.ntmps86
 go_wp2_with fail
 go_loopw [5, 6] (fun v5 v6 wr => ∃ i y : Nat, i ≤ size ∧ v6 = .int .i64 i ∧ v5 = .int .u64 y ∧ Hid (y = beN (l.take i)) ∧ wr = w) (fun _ v _ => size - (intOf v).toNat)
 case atStart => exact ⟨0, 0, by omega, rfl, rfl, Lib.hid rfl, rfl⟩
 case round =>
  obtain ⟨i, y, hi, rfl, rfl, HX, rfl⟩ := hrel
  by_cases hlt : i < size
  ·have hls : (i : Int) < sz := by have := HSZ.out; omega
   have hiN : i < N := by omega
   obtain ⟨g, o, rfl, hcx⟩ : ∃ g o, p = some ⟨g, o, none⟩ ∧ wr.cell? ⟨g, o + i, none⟩ = some (.int .u8 (l.getD i 0).toNat) := by
    obtain ⟨p', c', hp, hcc⟩ := HROW.out
    obtain ⟨b', o', q1, q2, q3, q4⟩ := hcc i (by rw [bys_length, HN.out]; omega)
    simp only [Value.slice.injEq] at hp
    obtain ⟨rfl, -, -⟩ := hp
    rw [bys_getD _ _ (by rw [HN.out]; omega)] at q4
    exact ⟨b', o', q1, q4⟩
   have hx56 : y < 72057594037927936 := by
    have h1 := beN_take_lt l i (by have := HN.out; omega)
    have h2 : 256 ^ i ≤ 256 ^ 7 := Nat.pow_le_pow_right (by omega) (by omega)
    rw [← HX.out] at h1
    have h3 : (256 : Nat) ^ 7 = 72057594037927936 := by decide
    omega
   have hnext : beN (l.take (i + 1)) = y * 256 + (l.getD i 0).toNat := by rw [beN_take l i (by have := HN.out; omega), HX.out]
   obtain ⟨d, hd⟩ : ∃ d, (l.getD i 0).toNat = d := ⟨_, rfl⟩
   have hd256 : d < 256 := by rw [← hd]; exact UInt8.toNat_lt _
   rw [hd] at hcx hnext
   have HNX := Lib.hid hnext
   have hor := or_byte y d hx56 hd256
   obtain ⟨y2, hy⟩ : ∃ y2, y * 256 + d = y2 := ⟨_, rfl⟩
   rw [hy] at hor
   have HY := Lib.hid hy
   clear hnext hd hy
   go_wp2_with fail
   exact ⟨⟨i + 1, y2, by omega, by go_num, rfl, Lib.hid (by rw [HNX.out, HY.out]), trivial⟩, by simp [intOf]; omega⟩
  ·obtain rfl : i = size := by omega
   have hls : ¬ (i : Int) < sz := by have := HSZ.out; omega
   have hx64 : y < 18446744073709551616 := by
    have h1 := beN_take_lt l i (by have := HN.out; omega)
    have h2 : 256 ^ i ≤ 256 ^ 8 := Nat.pow_le_pow_right (by omega) (by omega)
    rw [← HX.out] at h1
    have h3 : (256 : Nat) ^ 8 = 18446744073709551616 := by decide
    omega
   by_cases hby : 4611686018427387904 < y
   ·have hn : numF l i = (0, 2) := by unfold numF; rw [if_neg (by have := HN.out; omega), ← HX.out, if_pos hby]
    have hdd : decN l 0 i = (0, l, 2) := by unfold decN; rw [if_neg (by simp), hn, if_pos (by simp)]
    have hD := HD.out
    rw [hdd] at hD
    simp only [Prod.mk.injEq] at hD
    obtain ⟨rfl, rfl, rfl⟩ := hD
    have HE := Lib.hid (HBAD.out rfl rfl rfl)
    have hb' : (4611686018427387904 : Int) < (y : Int) := by omega
    clear hn hdd hby HD
    go_wp2_with fail
    exact HE.out
   ·have hn : numF l i = ((y : Int), 0) := by unfold numF; rw [if_neg (by have := HN.out; omega), ← HX.out, if_neg hby]
    have hdd : decN l 0 i = ((y : Int), l.drop i, 0) := by unfold decN; rw [if_neg (by simp), hn, if_neg (by simp)]
    have hD := HD.out
    rw [hdd] at hD
    simp only [Prod.mk.injEq] at hD
    obtain ⟨rfl, rfl, rfl⟩ := hD
    obtain ⟨p2, hsl, hr2⟩ := slice_from S p N q i l wr HROW.out (by omega) hq
    rw [← HSZ.out] at hsl
    obtain ⟨n2, hn2⟩ : ∃ n, N - i = n := ⟨_, rfl⟩
    obtain ⟨q2, hq2⟩ : ∃ n, q - i = n := ⟨_, rfl⟩
    rw [hn2, hq2] at hsl hr2
    have m0 : Mod (· = b) wr (wr.setCell ⟨b, 0, none⟩ (.slice p2 n2 q2)) := (Mod.refl (· = b) wr).setCell _ _ (fun _ => rfl)
    have hln : (l.drop i).length = n2 := by rw [List.length_drop, HN.out, hn2]
    have HE := Lib.hid (HPOST.out (.returned (.int .i64 (y : Int))) (wr.setCell ⟨b, 0, none⟩ (.slice p2 n2 q2)) ⟨rfl, ⟨p2, q2, by rw [hln]; omega, by unfold maxLen; omega, by rw [hln]; exact heap_setCell_same HB.out _ (off := 0), by rw [hln]; exact (hr2 wr HROW.out).mod m0 (fun k _ h e => hS (e ▸ h))⟩, m0⟩)
    have hb' : ¬ (4611686018427387904 : Int) < (y : Int) := by omega
    have hxw : IntKind.i64.wrap (y : Int) = (y : Int) := by rw [IntKind.wrap_i64]; omega
    clear hn hdd hby HD hr2 m0 hln hn2 hq2
    go_wp2_with fail
    exact HE.out
theorem refCopyBytesV (T : Nat → Prop) (v : Value) (l : List UInt8) (w : World) (h : IsRow T w v (bys l)) (hl : l.length ≤ 140737488355328) :
  Calls Tryz.prog 34 #[v] w fun e w' => ∃ v', e = .returned v' ∧ IsVec (fun k => w.heap.size ≤ k) w' 5 1 v' l.length (bys l) ∧ Mod nil w w' := by
 have hve : IsVec (fun k => w.heap.size ≤ k) (w.alloc (.cells #[] 5)) 5 1 (.slice (some ⟨w.heap.size, 0, none⟩) 0 0) ([] : List UInt8).length (bys []) := vec_empty w _ _
 obtain ⟨v2, w2, hrun, hv2, m2⟩ := bytes_append 40 hve (h.modNil ((Mod.refl nil w).alloc _)) (by simpa using hl)
 rw [List.nil_append] at hv2
 have HRUN := Lib.hid hrun
 have HV : Hid (IsVec (fun k => w.heap.size ≤ k) w2 5 1 v2 l.length (bys l)) := Lib.hid (hv2.mono (fun k _ h => h.elim id (fun h => by rw [World.size_alloc] at h; omega)))
 have HM : Hid (Mod nil w w2) := Lib.hid (((Mod.refl nil w).alloc _).new m2 (fun k h => h))
 obtain ⟨p, c, rfl, -⟩ := id h
 rw [bys_length] at HRUN ⊢
 clear hve hrun hv2 m2 h
 go_enter Tryz.func34, Tryz.ntmps34
 go_wp2_with (first | (at_builtin; refine wpList_append_run rfl _ _ _ _ rfl rfl rfl HRUN.out ?_))
 go_ret
 exact ⟨v2, rfl, HV.out, HM.out⟩
end Go.Proofs.YtdfahddpkkeldaaGreat

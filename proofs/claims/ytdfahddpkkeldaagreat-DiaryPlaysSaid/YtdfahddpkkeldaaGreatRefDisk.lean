/- The reference's disk (cflref6.Disk), told by the same plain disk DS as the program's: its methods. -/
import Derived.Lib.ConvBytes
import Derived.Test.YtdfahddpkkeldaaGreatDiskC
import Derived.Test.YtdfahddpkkeldaaGreatBytesB
import Derived.Test.YtdfahddpkkeldaaGreatCurs
import Derived.Test.YtdfahddpkkeldaaGreatEnts
namespace Go.Proofs.YtdfahddpkkeldaaGreat
open Go.RowKit
def strs (l : List (List UInt8)) : List Value := l.map (fun b => Value.string ⟨b.toArray⟩)
theorem strs_getD (l : List (List UInt8)) (i : Nat) (h : i < l.length) : (strs l).getD i undef = Value.string ⟨(l.getD i []).toArray⟩ := by simp [strs, h]
theorem strs_set (l : List (List UInt8)) (i : Nat) (b : List UInt8) : (strs l).set i (Value.string ⟨b.toArray⟩) = strs (l.set i b) := by simp [strs, List.map_set]
/-- the reference's disk: its object lies in block b, its sectors' lists in blocks of P1 and P2, what is pending in blocks of P3 -/
structure IsRefAt (w : World) (b : Nat) (P1 P2 P3 : Nat → Prop) (v1 v2 v3 : Value) (d : DS) : Prop where
 obj : w.heap[b]? = some (.cells #[v1, v2, v3, .int .i64 d.fuse, .bool d.down] 92 (0, 0))
 now : IsVec P1 w 9 1 v1 d.lasts.length (strs d.curs)
 last : IsVec P2 w 9 1 v2 d.lasts.length (strs d.lasts)
 pend : IsVec P3 w 3 1 v3 d.dirt.length (d.dirt.map (Value.int .i64))
 p1 : ¬ P1 b
 p2 : ¬ P2 b
 p3 : ¬ P3 b
 p12 : ∀ k, P1 k → ¬ P2 k
 p13 : ∀ k, P1 k → ¬ P3 k
 p23 : ∀ k, P2 k → ¬ P3 k
 fz : -1 ≤ d.fuse ∧ d.fuse ≤ 9223372036854775807
 keys : ∀ p ∈ d.pend, 0 ≤ p.1 ∧ p.1 < d.lasts.length
 room : d.lasts.length ≤ 8192
 nodup : (d.pend.map (·.1)).Nodup
theorem IsRefAt.foot {w w' : World} {b : Nat} {P1 P2 P3 T : Nat → Prop} {v1 v2 v3 : Value} {d : DS} (h : IsRefAt w b P1 P2 P3 v1 v2 v3 d) (m : Mod T w w') (hs : ∀ k, k < w.heap.size → (k = b ∨ P1 k ∨ P2 k ∨ P3 k) → ¬ T k) : IsRefAt w' b P1 P2 P3 v1 v2 v3 d :=
  { h with
    obj := (m.block b (heap_lt h.obj) (hs b (heap_lt h.obj) (.inl rfl))).trans h.obj
    now := h.now.mod m (fun k hk hp => hs k hk (.inr (.inl hp)))
    last := h.last.mod m (fun k hk hp => hs k hk (.inr (.inr (.inl hp))))
    pend := h.pend.mod m (fun k hk hp => hs k hk (.inr (.inr (.inr hp)))) }
def IsRefIn (w : World) (B : Nat → Prop) (b : Nat) (d : DS) : Prop := ∃ P1 P2 P3 v1 v2 v3, IsRefAt w b P1 P2 P3 v1 v2 v3 d ∧ B b ∧ ∀ k, P1 k ∨ P2 k ∨ P3 k → B k
theorem IsRefIn.mod {w w' : World} {B T : Nat → Prop} {b : Nat} {d : DS} (h : IsRefIn w B b d) (m : Mod T w w') (hs : ∀ k, k < w.heap.size → B k → ¬ T k) : IsRefIn w' B b d := by
 obtain ⟨P1, P2, P3, v1, v2, v3, h, hb, hB⟩ := h
 exact ⟨P1, P2, P3, v1, v2, v3, h.foot m (fun k hk hp => hs k hk (hp.elim (fun e => e ▸ hb) (hB k))), hb, hB⟩
theorem IsRefAt.few {w : World} {b : Nat} {P1 P2 P3 : Nat → Prop} {v1 v2 v3 : Value} {d : DS} (h : IsRefAt w b P1 P2 P3 v1 v2 v3 d) : d.pend.length ≤ 8192 := by
 have h1 := few_keys d.lasts.length h.nodup (fun k hk => by obtain ⟨p, hp, rfl⟩ := List.mem_map.1 hk; exact h.keys p hp)
 have h2 := h.room
 simpa using Nat.le_trans h1 h2
theorem refBurns (b : Nat) (P1 P2 P3 : Nat → Prop) (v1 v2 v3 : Value) (d : DS) (w : World) (h : IsRefAt w b P1 P2 P3 v1 v2 v3 d) :
  Calls Tryz.prog 44 #[.pointer (some ⟨b, 0, none⟩)] w fun e w' => e = .returned (.bool (!d.holds)) ∧ IsRefAt w' b P1 P2 P3 v1 v2 v3 d.burn ∧ Mod (· = b) w w' := by
 have c3 : w.cell? ⟨b, 3, none⟩ = some (.int .i64 d.fuse) := cell_of h.obj 3
 have f3 : w.frozen? ⟨b, 3, none⟩ = false := free_of h.obj 3
 have c4 : w.cell? ⟨b, 4, none⟩ = some (.bool d.down) := cell_of h.obj 4
 have f4 : w.frozen? ⟨b, 4, none⟩ = false := free_of h.obj 4
 have hf1 := h.fz.1
 have hf2 := h.fz.2
 have ms : ∀ o v, Mod (· = b) w (w.setCell ⟨b, o, none⟩ v) := fun o v => (Mod.refl (· = b) w).setCell _ _ (fun _ => rfl)
 have keep : ∀ (o : Nat) (v : Value) (f : Int) (dn : Bool), (-1 ≤ f ∧ f ≤ 9223372036854775807) → (w.setCell ⟨b, o, none⟩ v).heap[b]? = some (.cells #[v1, v2, v3, .int .i64 f, .bool dn] 92 (0, 0)) → IsRefAt (w.setCell ⟨b, o, none⟩ v) b P1 P2 P3 v1 v2 v3 { d with fuse := f, down := dn } := by
  intro o v f dn hf ho
  exact { obj := ho, now := h.now.mod (ms o v) (fun k _ hk e => h.p1 (e ▸ hk)), last := h.last.mod (ms o v) (fun k _ hk e => h.p2 (e ▸ hk)), pend := h.pend.mod (ms o v) (fun k _ hk e => h.p3 (e ▸ hk)), p1 := h.p1, p2 := h.p2, p3 := h.p3, p12 := h.p12, p13 := h.p13, p23 := h.p23, fz := hf, keys := h.keys, room := h.room, nodup := h.nodup }
 have hcase : d.fuse = 0 ∨ (d.fuse ≠ 0 ∧ 0 < d.fuse) ∨ (d.fuse ≠ 0 ∧ d.fuse < 0) := by omega
 rcases hcase with h1 | ⟨h1, h2⟩ | ⟨h1, h2⟩
 ·have hd : IsRefAt (w.setCell ⟨b, 4, none⟩ (.bool true)) b P1 P2 P3 v1 v2 v3 d.burn := by
   unfold DS.burn; rw [if_pos h1]
   exact keep 4 _ d.fuse true h.fz (by rw [heap_setCell_same h.obj]; rfl)
  have hr : d.holds = false := by simp [DS.holds, h1]
  have HD := Lib.hid hd
  have HR := Lib.hid hr
  have HM := Lib.hid (ms 4 (.bool true))
  have h0 : (d.fuse == 0) = true := by simp [h1]
  clear hd hr h h1 keep ms
  go_enter Tryz.func44, Tryz.ntmps44
  go_wp2_with fail
  go_ret
  exact ⟨by rw [HR.out]; rfl, HD.out, HM.out⟩
 ·have hd : IsRefAt (w.setCell ⟨b, 3, none⟩ (.int .i64 (d.fuse - 1))) b P1 P2 P3 v1 v2 v3 d.burn := by
   unfold DS.burn; rw [if_neg h1, if_pos h2]
   exact keep 3 _ (d.fuse - 1) d.down (by omega) (by rw [heap_setCell_same h.obj]; rfl)
  have hr : d.holds = true := by simp [DS.holds, h1]
  have HD := Lib.hid hd
  have HR := Lib.hid hr
  have HM := Lib.hid (ms 3 (.int .i64 (d.fuse - 1)))
  have h0 : (d.fuse == 0) = false := by simp [h1]
  clear hd hr h keep ms
  go_enter Tryz.func44, Tryz.ntmps44
  go_wp2_with fail
  go_ret
  exact ⟨by rw [HR.out]; rfl, HD.out, HM.out⟩
 ·have hd : IsRefAt w b P1 P2 P3 v1 v2 v3 d.burn := by
   unfold DS.burn; rw [if_neg h1, if_neg (by omega)]; exact h
  have hr : d.holds = true := by simp [DS.holds, h1]
  have HD := Lib.hid hd
  have HR := Lib.hid hr
  have h0 : (d.fuse == 0) = false := by simp [h1]
  clear hd hr h keep ms
  go_enter Tryz.func44, Tryz.ntmps44
  go_wp2_with fail
  go_ret
  exact ⟨by rw [HR.out]; rfl, HD.out, Mod.refl _ _⟩
theorem refFuse (b : Nat) (B : Nat → Prop) (d : DS) (n : Int) (w : World) (h : IsRefIn w B b d) (hn : n ≤ 9223372036854775807) :
  Calls Tryz.prog 16 #[.pointer (some ⟨b, 0, none⟩), .int .i64 n] w fun e w' => e = .returned (.tuple #[]) ∧ IsRefIn w' B b { d with fuse := max n (-1) } ∧ Mod (· = b) w w' := by
 obtain ⟨P1, P2, P3, v1, v2, v3, h, hb, hB⟩ := h
 have c3 : w.cell? ⟨b, 3, none⟩ = some (.int .i64 d.fuse) := cell_of h.obj 3
 have f3 : w.frozen? ⟨b, 3, none⟩ = false := free_of h.obj 3
 have fin : ∀ x, max n (-1) = x → IsRefIn (w.setCell ⟨b, 3, none⟩ (.int .i64 x)) B b { d with fuse := max n (-1) } ∧ Mod (· = b) w (w.setCell ⟨b, 3, none⟩ (.int .i64 x)) := by
  intro x hx
  have hm : Mod (· = b) w (w.setCell ⟨b, 3, none⟩ (.int .i64 x)) := (Mod.refl _ _).setCell _ _ (fun _ => rfl)
  exact ⟨⟨P1, P2, P3, v1, v2, v3, { obj := by rw [heap_setCell_same h.obj, hx]; rfl, now := h.now.mod hm (fun k _ hk e => h.p1 (e ▸ hk)), last := h.last.mod hm (fun k _ hk e => h.p2 (e ▸ hk)), pend := h.pend.mod hm (fun k _ hk e => h.p3 (e ▸ hk)), p1 := h.p1, p2 := h.p2, p3 := h.p3, p12 := h.p12, p13 := h.p13, p23 := h.p23, fz := by simp only; omega, keys := h.keys, room := h.room, nodup := h.nodup }, hb, hB⟩, hm⟩
 have HF := Lib.hid fin
 clear fin h
 rcases Int.lt_or_le n (-1) with h1 | h1
 all_goals
  go_enter Tryz.func16, Tryz.ntmps16
  go_wp2
  go_end0
  exact ⟨rfl, HF.out _ (by omega)⟩
theorem bytesWorld_mod (w : World) (e : TypeId) (s : ByteArray) : Mod nil w (Lib.bytesWorld w e s) :=
 ⟨rfl, rfl, rfl, by rw [Lib.bytesWorld_size]; omega, fun k hk _ => Lib.bytesWorld_at_old w e s k hk⟩
theorem bytesWorld_row (w : World) (l : List UInt8) (c : Nat) : IsRow (fun k => w.heap.size ≤ k) (Lib.bytesWorld w 5 ⟨l.toArray⟩) (.slice (some ⟨w.heap.size, 0, none⟩) l.length c) (bys l) := by
 refine ⟨_, c, by rw [bys_length], fun i hi => ⟨w.heap.size, 0, rfl, Nat.le_refl _, by rw [Lib.bytesWorld_size]; omega, ?_⟩⟩
 rw [bys_length] at hi
 rw [Nat.zero_add, Lib.bytesWorld_cell w _ ⟨l.toArray⟩ i (show i < l.toArray.size by simpa using hi), bys_getD _ _ hi]
set_option maxRecDepth 100000 in
theorem refRead (b : Nat) (B : Nat → Prop) (d : DS) (i : Int) (w : World) (h : IsRefIn w B b d) :
  Calls Tryz.prog 89 #[.pointer (some ⟨b, 0, none⟩), .int .i64 i] w fun e w' => ∃ v, e = .returned (.tuple #[v, .int .i64 (d.read i).2]) ∧ IsRow (fun k => w.heap.size ≤ k) w' v (bys (d.read i).1) ∧ Mod nil w w' := by
 obtain ⟨P1, P2, P3, v1, v2, v3, h, hb, hB⟩ := h
 obtain ⟨p, c, rfl⟩ := h.now.form
 obtain ⟨n, hn⟩ : ∃ n, d.lasts.length = n := ⟨_, rfl⟩
 have hroom := h.room
 rw [hn] at hroom
 have c0 : w.cell? ⟨b, 0, none⟩ = some (.slice p n c) := by rw [← hn]; exact cell_of h.obj 0
 have c4 : w.cell? ⟨b, 4, none⟩ = some (.bool d.down) := cell_of h.obj 4
 rw [read_cur]
 have nilrow : IsRow (fun k => w.heap.size ≤ k) w (.slice none 0 0) (bys []) := ⟨none, 0, rfl, fun i hi => absurd hi (by simp [bys])⟩
 have HNR := Lib.hid nilrow
 cases hdn : d.down
 ·rw [hdn] at c4
  rcases (show i < 0 ∨ (0 ≤ i ∧ (n : Int) ≤ i) ∨ (0 ≤ i ∧ i < n) by omega) with h1 | ⟨h1, h2⟩ | ⟨h1, h2⟩
  ·have hs : d.sector i = 1 := by simp [DS.sector, hdn, h1]
   rw [hs, if_pos (by simp)]
   clear h hs hn nilrow
   go_enter Tryz.func89, Tryz.ntmps89
   go_wp2_with fail
   go_ret2
   exact ⟨_, rfl, HNR.out, Mod.refl _ _⟩
  ·have hs : d.sector i = 1 := by unfold DS.sector; rw [if_neg (by simp [hdn]), if_pos (by omega)]
   rw [hs, if_pos (by simp)]
   clear h hs hn nilrow
   go_enter Tryz.func89, Tryz.ntmps89
   go_wp2_with fail
   go_ret2
   exact ⟨_, rfl, HNR.out, Mod.refl _ _⟩
  ·have hs : d.sector i = 0 := by unfold DS.sector; rw [if_neg (by simp [hdn]), if_neg (by omega)]
   rw [hs, if_neg (by simp)]
   obtain ⟨k, rfl⟩ := Int.eq_ofNat_of_zero_le h1
   obtain ⟨g, c', hv, hg, hgl, hcell, _, _⟩ := vec_set h.now k (by omega)
   simp only [Value.slice.injEq] at hv
   obtain ⟨rfl, -, rfl⟩ := hv
   rw [strs_getD _ _ (by rw [curs_length]; omega)] at hcell
   simp only [Int.toNat_natCast]
   generalize d.curs.getD k [] = l at hcell ⊢
   have kc := Lib.run_convert_string_bytes (P := Tryz.prog) w 9 40 5 ⟨l.toArray⟩ Tryz.underlying9 Tryz.underlying40 Tryz.underlying5
   clear h hs hn nilrow
   go_enter Tryz.func89, Tryz.ntmps89
   go_wp2_with fail
   go_ret2
   exact ⟨_, rfl, bytesWorld_row w l _, bytesWorld_mod _ _ _⟩
 ·rw [hdn] at c4
  have hs : d.sector i = 13 := by simp [DS.sector, hdn]
  rw [hs, if_pos (by simp)]
  clear h hs hn nilrow hdn
  go_enter Tryz.func89, Tryz.ntmps89
  go_wp2_with fail
  go_ret2
  exact ⟨_, rfl, HNR.out, Mod.refl _ _⟩
def mixTo (a b : List (List UInt8)) (k : Nat) : List (List UInt8) := a.take k ++ b.drop k
theorem mixTo_set (a b : List (List UInt8)) (k : Nat) (h : a.length = b.length) (hk : k < b.length) : (mixTo a b k).set k (a.getD k []) = mixTo a b (k + 1) := by
 have hka : k < a.length := by omega
 unfold mixTo
 rw [List.set_append_right _ _ (by simp; omega)]
 rw [show k - (a.take k).length = 0 by simp; omega, List.drop_eq_getElem_cons hk, List.set_cons_zero]
 have hg : a.getD k [] = a[k] := by simp [hka]
 rw [hg, ← List.take_append_getElem hka, List.append_assoc, List.singleton_append]
theorem mixTo_all (a b : List (List UInt8)) (h : a.length = b.length) : mixTo a b b.length = a := by simp [mixTo, ← h]
theorem burn_cur (d : DS) : d.burn.curs = d.curs := by
 have hl := d.burn_lasts
 unfold DS.curs DS.cur
 rw [hl.1, hl.2]
set_option maxHeartbeats 1000000 in
theorem refSync (b : Nat) (B : Nat → Prop) (d : DS) (w : World) (h : IsRefIn w B b d) :
    Calls Tryz.prog 98 #[.pointer (some ⟨b, 0, none⟩)] w fun e w' => e = .returned (.int .i64 d.sync.2) ∧ IsRefIn w' B b d.sync.1 ∧ Mod B w w' := by
  obtain ⟨P1, P2, P3, v1, v2, v3, h, hb, hB⟩ := h
  have c4 : w.cell? ⟨b, 4, none⟩ = some (.bool d.down) := cell_of h.obj 4
  have hbB : ∀ k, k < w.heap.size → k = b → B k := fun k _ e => e ▸ hb
  have HBB := Lib.hid hbB
  clear hbB
  cases hdn : d.down
  · rw [hdn] at c4
    cases hh : d.holds
    · have hr : d.sync = (d.burn, 13) := by simp [DS.sync, hdn, hh]
      rw [hr]
      have HH := Lib.hid hh
      clear hr hdn hh
      go_enter Tryz.func98, Tryz.ntmps98
      go_wp2_with fail
      refine (refBurns b P1 P2 P3 v1 v2 v3 d w h).mono ?_
      rw [HH.out]
      rintro e w2 ⟨rfl, hd2, hm2⟩
      go_wp2_with fail
      go_ret
      exact ⟨rfl, ⟨P1, P2, P3, v1, v2, v3, hd2, hb, hB⟩, hm2.mono HBB.out⟩
    · have hr : d.sync = ({ d.burn with lasts := d.synced, pend := [] }, 0) := by simp [DS.sync, hdn, hh]
      rw [hr]
      have HH := Lib.hid hh
      have hbl := d.burn_lasts
      clear hr hdn hh
      go_enter Tryz.func98, Tryz.ntmps98
      go_wp2_with fail
      refine (refBurns b P1 P2 P3 v1 v2 v3 d w h).mono ?_
      rw [HH.out]
      rintro e w2 ⟨rfl, hd2, hm2⟩
      obtain ⟨p1, q1, rfl⟩ := hd2.now.form
      obtain ⟨p2, q2, rfl⟩ := hd2.last.form
      obtain ⟨n, hn⟩ : ∃ n, d.lasts.length = n := ⟨_, rfl⟩
      have hroom := h.room
      have hobj := hd2.obj
      have hnow := hd2.now
      have hlast := hd2.last
      have hpend := hd2.pend
      rw [burn_cur] at hnow
      rw [hbl.1] at hobj hnow hlast
      rw [hn] at hobj hnow hlast hroom
      have HD := Lib.hid hd2
      have HN := Lib.hid hn
      have HM2 := Lib.hid (hm2.mono HBB.out)
      have HL := Lib.hid hlast
      have HO := Lib.hid hobj
      have HNOW := Lib.hid hnow
      have HP := Lib.hid hpend
      have HBL := Lib.hid hbl
      clear h hd2 hobj hnow hlast hpend hm2 hn hbl c4
      go_wp2_with fail
      go_loopw [3] (fun v wr => ∃ k : Nat, k ≤ n ∧ v = .int .i64 k ∧ wr.heap[b]? = some (.cells #[.slice p1 n q1, .slice p2 n q2, v3, .int .i64 d.burn.fuse, .bool d.burn.down] 92 (0, 0)) ∧ IsVec P1 wr 9 1 (.slice p1 n q1) n (strs d.curs) ∧ IsVec P2 wr 9 1 (.slice p2 n q2) n (strs (mixTo d.curs d.lasts k)) ∧ Mod B w wr) (fun v _ => n - (intOf v).toNat)
      case atStart => exact ⟨0, by omega, rfl, HO.out, HNOW.out, by simpa [mixTo, HBL.out.1] using HL.out, HM2.out⟩
      case round =>
        obtain ⟨k, hk, rfl, hobj, hnow, hlast, hmod⟩ := hrel
        have hlen : d.curs.length = d.lasts.length := curs_length d
        by_cases hlt : k < n
        · have c0 : wr.cell? ⟨b, 0, none⟩ = some (.slice p1 n q1) := cell_of hobj 0
          have c1 : wr.cell? ⟨b, 1, none⟩ = some (.slice p2 n q2) := cell_of hobj 1
          obtain ⟨g1, q1', hv1, hg1, hgl1, ck1, _, _⟩ := vec_set hnow k hlt
          simp only [Value.slice.injEq] at hv1
          obtain ⟨rfl, -, rfl⟩ := hv1
          obtain ⟨g2, q2', hv2, hg2, hgl2, ck2, fk2, hset⟩ := vec_set hlast k hlt
          simp only [Value.slice.injEq] at hv2
          obtain ⟨rfl, -, rfl⟩ := hv2
          rw [strs_getD _ _ (by have := HN.out; omega)] at ck1
          have ms : ∀ v, Mod (· = g2) wr (wr.setCell ⟨g2, k, none⟩ v) := fun v => (Mod.refl _ _).setCell _ _ (fun _ => rfl)
          have hbg : b ≠ g2 := fun e => HD.out.p2 (e ▸ hg2)
          have hg12 : g1 ≠ g2 := fun e => HD.out.p12 g1 hg1 (e ▸ hg2)
          have cs0 : ∀ v, (wr.setCell ⟨g2, k, none⟩ v).cell? ⟨b, 0, none⟩ = some (.slice (some ⟨g1, 0, none⟩) n q1) := fun v => cell_kept c0 (ms v) (heap_lt hobj) hbg
          have cs1 : ∀ v, (wr.setCell ⟨g2, k, none⟩ v).cell? ⟨b, 1, none⟩ = some (.slice (some ⟨g2, 0, none⟩) n q2) := fun v => cell_kept c1 (ms v) (heap_lt hobj) hbg
          obtain ⟨x, hx⟩ : ∃ x, d.curs.getD k [] = x := ⟨_, rfl⟩
          rw [hx] at ck1
          have csk : ∀ v, (wr.setCell ⟨g2, k, none⟩ v).cell? ⟨g1, k, none⟩ = some (.string ⟨x.toArray⟩) := fun v => cell_kept ck1 (ms v) hgl1 hg12
          have HX := Lib.hid hx
          have HO2 := Lib.hid hobj
          have HNOW2 := Lib.hid hnow
          have HSET := Lib.hid hset
          have HMS := Lib.hid ms
          have HLEN := Lib.hid hlen
          have HMOD := Lib.hid hmod
          clear hobj hnow hlast hset ms hx hlen hmod
          go_wp2_with fail
          go_region_held3 (fun w' => w'.cell? ⟨b, 0, none⟩ = some (.slice (some ⟨g1, 0, none⟩) n q1) ∧ w'.cell? ⟨b, 1, none⟩ = some (.slice (some ⟨g2, 0, none⟩) n q2) ∧ w'.cell? ⟨g1, k, none⟩ = some (.string ⟨x.toArray⟩)) (first | exact ⟨c0, c1, ck1⟩ | exact ⟨cs0 _, cs1 _, csk _⟩) (first | fail)
          go_wp2_with fail
          have m1 := (HMS.out (.string ⟨x.toArray⟩)).drew
          refine ⟨⟨k + 1, by omega, by go_num, (m1.ne b (heap_lt HO2.out) hbg).trans HO2.out, HNOW2.out.mod m1 (fun j _ hj e => HD.out.p12 j hj (e ▸ hg2)), ?_, HMOD.out.trans m1 (fun j _ e => e ▸ hB _ (.inr (.inl hg2)))⟩, by simp [intOf]; omega⟩
          have := (HSET.out (.string ⟨x.toArray⟩) rfl).modNil (Mod.refl nil _).drew
          have e := mixTo_set _ _ k HLEN.out (by have := HN.out; omega)
          rw [HX.out] at e
          rw [strs_set, e] at this
          exact this
        · obtain rfl : k = n := by omega
          have c0 : wr.cell? ⟨b, 0, none⟩ = some (.slice p1 k q1) := cell_of hobj 0
          have c2 : wr.cell? ⟨b, 2, none⟩ = some v3 := cell_of hobj 2
          have f2 : wr.frozen? ⟨b, 2, none⟩ = false := free_of hobj 2
          have HO2 := Lib.hid hobj
          have HLEN := Lib.hid hlen
          clear hobj hlen
          go_wp2_with fail
          go_ret
          have ms : Mod (· = b) wr (wr.setCell ⟨b, 2, none⟩ (.slice none 0 0)) := (Mod.refl _ _).setCell _ _ (fun _ => rfl)
          have hd := HD.out
          have hmix : mixTo d.curs d.lasts k = d.synced := by rw [← HN.out, mixTo_all _ _ HLEN.out, synced_curs]
          rw [hmix] at hlast
          have hsl : d.synced.length = k := by rw [synced_curs, HLEN.out, HN.out]
          refine ⟨rfl, ⟨P1, P2, fun _ => False, .slice p1 k q1, .slice p2 k q2, .slice none 0 0, ?_, hb, fun j hj => hj.elim (fun h => hB j (.inl h)) (fun h => h.elim (fun h => hB j (.inr (.inl h))) False.elim)⟩, hmod.trans ms HBB.out⟩
          exact { obj := heap_setCell_same HO2.out _
                  now := by
                    have := hnow.mod ms (fun j _ hj e => hd.p1 (e ▸ hj))
                    simp only [curs_none, hsl]
                    rw [synced_curs]; exact this
                  last := by simp only [hsl]; exact hlast.mod ms (fun j _ hj e => hd.p2 (e ▸ hj))
                  pend := by simpa [DS.dirt, asc] using IsVec.nil (fun _ => False) (wr.setCell ⟨b, 2, none⟩ (.slice none 0 0)) 3 1
                  p1 := hd.p1, p2 := hd.p2, p3 := id, p12 := hd.p12, p13 := fun _ _ => id, p23 := fun _ _ => id
                  fz := hd.fz, keys := by simp, room := by simp only [hsl]; exact hroom, nodup := by simp }
  · have hr : d.sync = (d, 13) := by simp [DS.sync, hdn]
    rw [hr]
    rw [hdn] at c4
    clear hr hdn
    have H := Lib.hid h
    clear h
    go_enter Tryz.func98, Tryz.ntmps98
    go_wp2_with fail
    go_ret
    exact ⟨rfl, ⟨P1, P2, P3, v1, v2, v3, H.out, hb, hB⟩, Mod.refl _ _⟩
end Go.Proofs.YtdfahddpkkeldaaGreat

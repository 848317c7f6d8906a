/- The walks over package disk, the third part: Crash. -/
import Derived.Test.YtdfahddpkkeldaaGreatCurs
import Derived.Test.YtdfahddpkkeldaaGreatSort
namespace Go.Proofs.YtdfahddpkkeldaaGreat
open Go.RowKit Go.MapKept
def DS.at (d : DS) (k : Int) : List UInt8 := match d.pend.find? (fun p => p.1 == k) with | some p => p.2 | none => []
/-- the keys of what is pending, ascending -/
def DS.dirt (d : DS) : List Int := asc (d.pend.map (·.1))
def DS.layTo (d : DS) (keep : List Bool) : Nat → List (List UInt8)
 | 0 => d.lasts
 | j + 1 => if keep.getD j false then (d.layTo keep j).set (d.dirt.getD j 0).toNat (d.at (d.dirt.getD j 0)) else d.layTo keep j
def DS.crash (d : DS) (keep : List Bool) : DS := ⟨d.layTo keep d.dirt.length, [], -1, false⟩
theorem DS.layTo_length (d : DS) (keep : List Bool) : ∀ j, (d.layTo keep j).length = d.lasts.length
 | 0 => rfl
 | j + 1 => by unfold DS.layTo; split <;> simp [DS.layTo_length d keep j]
theorem dirt_mem (d : DS) (k : Int) : k ∈ d.dirt ↔ k ∈ d.pend.map (·.1) := (asc_perm _).mem_iff
theorem dirt_length (d : DS) : d.dirt.length = d.pend.length := by simp [DS.dirt, asc_length]
theorem info_int : (Tryz.prog.info? 3).map (fun i => (i.zero, i.size, i.bytes)) = some (some (.int .i64 0), 1, 8) := by kernel_rfl
theorem run_lookup_one {P : Program} {w : World} {b : Nat} {m : List (Int × Value)} {t kt et : TypeId} (ht : P.underlying t = some (.map kt et)) (hk : P.underlying kt = some (.int .i64)) (h : IMap w b m) {k : Int} {v : Value} (hkv : (k, v) ∈ m) :
  (Instr.lookup t (.map (some b)) (.int .i64 k) false).run P w = .ok v w := by
 have hn := h.nodup
 obtain ⟨es, clock, h, rfl⟩ := h
 rcases find_int k es 0 with ⟨h1, _⟩ | ⟨j, x, h1, h2, h3⟩
 ·exfalso; apply h1
  obtain ⟨y, hy, hy2⟩ := List.mem_map.1 hkv
  exact List.mem_map.2 ⟨y, hy, by rw [hy2]⟩
 ·have hx : x.1 = (k, v) := by
   obtain ⟨y, hy, hy2⟩ := List.mem_map.1 hkv
   obtain ⟨i, hi, rfl⟩ := List.getElem_of_mem hy
   obtain ⟨hj, rfl⟩ := List.getElem?_eq_some_iff.1 h1
   have hn := h.nodup
   have hij : i = j := by
    have e1 : (es.map (·.1.1))[i]'(by simpa) = (es.map (·.1.1))[j]'(by simpa) := by simp [h2, hy2]
    exact (List.getElem_inj hn).1 e1
   subst hij
   exact hy2
  simp only [Instr.lookup, Sem.run_bind, run_underlying ht, Result.andThen, MapKept.run_getObj_map h.block, run_checkKey hk (isKey_int k)]
  simp [run_findKey hk h3, hx]
theorem IsDisk.lay {w : World} {b bl bm : Nat} {C : Nat → Prop} {d : DS} (h : IsDisk w b bl bm C d) (i : Nat) (v : Value) (l : List UInt8) (hrow : IsRow C w v (bys l)) (hl : l.length = 64) :
    IsDisk (w.setCell ⟨bl, i, none⟩ v) b bl bm C { d with lasts := d.lasts.set i l } := by
  have ms : Mod (· = bl) w (w.setCell ⟨bl, i, none⟩ v) := (Mod.refl _ _).setCell _ _ (fun _ => rfl)
  have hC : ∀ x, x < w.heap.size → C x → ¬ x = bl := fun x _ hx e => h.c2 (e ▸ hx)
  obtain ⟨vl, h1, h2, h3⟩ := h.lasts
  obtain ⟨vm, h4, h5⟩ := h.pend
  exact { obj := by simpa using (ms.ne b (heap_lt h.obj) h.ne1).trans h.obj
          lasts := ⟨vl.set i v, by rw [heap_setCell_same h1]; simp, by simp [h2], fun j a a' => by
            simp only [List.getElem_set]
            split
            · exact ⟨hrow.mod ms hC, hl⟩
            · have := h3 j (by simpa using a) (by simpa using a')
              exact ⟨this.1.mod ms hC, this.2⟩⟩
          pend := ⟨vm, h4.mod ms (Ne.symm h.ne3), h5.mod ms hC⟩
          keys := by simpa using h.keys
          room := by simpa using h.room
          fz := h.fz, ne1 := h.ne1, ne2 := h.ne2, ne3 := h.ne3, c1 := h.c1, c2 := h.c2, c3 := h.c3 }
set_option maxRecDepth 100000 in
set_option maxHeartbeats 1000000 in
theorem diskCrash (b bl bm : Nat) (C T : Nat → Prop) (d : DS) (v : Value) (keep : List Bool) (w : World) (h : IsDisk w b bl bm C d) (hv : IsRow T w v (keep.map Value.bool)) (hT : ¬ T b ∧ ¬ T bl) (hkl : keep.length ≤ 9223372036854775807) :
    Calls Tryz.prog 13 #[.pointer (some ⟨b, 0, none⟩), v] w fun e w' => e = .returned (.tuple #[]) ∧ IsDisk w' b bl bm C (d.crash keep) ∧ Mod (fun k => k = b ∨ k = bl ∨ k = bm) w w' := by
  have c1 : w.cell? ⟨b, 1, none⟩ = some (.map (some bm)) := cell_of h.obj 1
  obtain ⟨vm, hmap, hrel⟩ := h.pend
  obtain ⟨w3, hrun, hit, hm3, hsz3⟩ := run_range (P := Tryz.prog) Tryz.underlying86 hmap
  have H := Lib.hid h
  have HV := Lib.hid hv
  have HREL := Lib.hid hrel
  have hn : (vm.map (·.1)).Nodup := hmap.nodup
  have hcount : vm.length ≤ 8192 := by
    have h1 := few_keys d.lasts.length hn (fun k hk => by
      rw [hrel.keys] at hk
      obtain ⟨p, hp, rfl⟩ := List.mem_map.1 hk
      exact h.keys p hp)
    have h2 := h.room
    simpa using Nat.le_trans h1 h2
  have HN := Lib.hid hn
  have HCOUNT := Lib.hid hcount
  have hrz : w.heap.size ≤ w.heap.size := Nat.le_refl _
  have hrm : bm < w.heap.size := hmap.lt
  have hrb : b < w.heap.size := heap_lt h.obj
  clear hn hcount hrel hmap h hv
  obtain ⟨p, c, rfl, hcells⟩ := HV.out
  rw [List.length_map] at *
  clear hcells
  go_enter Tryz.func13, Tryz.ntmps13
  go_wp2_with fail
  have HSZ := Lib.hid hsz3
  clear hrun hsz3 c1
  generalize hr : w.heap.size = r at hit hrz hrm hrb HSZ ⊢
  have HR := Lib.hid hr
  clear hr hrz
  go_loopw [4] (fun v wr => ∃ (left : List (Int × Value)) (done : List Int), IIter wr r bm vm left ∧ IsVec (fun k => r < k) wr 3 1 v done.length (done.map (Value.int .i64)) ∧ (done ++ left.map (·.1)).Perm (vm.map (·.1)) ∧ (left.map (·.1)).Nodup ∧ Mod nil w wr ∧ r < wr.heap.size) (fun _ wr => iterLeft wr r bm)
  case atStart => exact ⟨vm, [], hit, IsVec.nil _ _ _ _, by simp, HN.out, hm3, by have := HSZ.out; omega⟩
  case round =>
    obtain ⟨left, done, hit, hvec, hperm, hnd, hmod, hrl⟩ := hrel
    have HIT := Lib.hid hit
    have HVEC := Lib.hid hvec
    have HPERM := Lib.hid hperm
    have HND := Lib.hid hnd
    obtain ⟨pv, cv, rfl⟩ := hvec.form
    rcases run_next (P := Tryz.prog) 0 hit with ⟨hleft, hrun⟩ | ⟨k, v4, w4, hin, hrun, hit4, hm4, hz4, hent⟩
    · subst hleft
      clear hit hvec hperm hnd
      go_wp2_with fail
      have hlen : done.length < 4611686018427387904 := by
        have h1 := HPERM.out.length_eq
        have h2 := HCOUNT.out
        simp at h1
        omega
      refine (vecSort _ _ _ done wr HVEC.out hlen).mono ?_
      rintro e w7 ⟨rfl, hrow7, hm7⟩
      have hw7 : Mod nil w w7 := hmod.new hm7 (fun i hi => by have := HR.out; omega)
      have hd7 : IsDisk w7 b bl bm C d := H.out.modNil hw7
      have hdirt : asc done = d.dirt := by
        unfold DS.dirt
        refine asc_eq ?_
        rw [← HREL.out.keys]
        simpa using HPERM.out
      rw [hdirt] at hrow7
      have hdl : done.length = d.dirt.length := by rw [← hdirt, asc_length]
      have HROW7 := Lib.hid hrow7
      have HD7 := Lib.hid hd7
      have HW7 := Lib.hid hw7
      clear hrow7 hd7 hw7 hm7 hmod hrun hlen hdirt hit
      rw [hdl]
      obtain ⟨nd, hnd⟩ : ∃ nd, d.dirt.length = nd := ⟨_, rfl⟩
      rw [hnd]
      have HND2 := Lib.hid hnd
      have hlr : bl < r := by
        have h := H.out
        obtain ⟨vl, h1, _⟩ := h.lasts
        have := HR.out
        have := heap_lt h1
        omega
      have hnd8 : nd ≤ 8192 := by
        rw [← hnd, dirt_length, ← HREL.out.1]
        exact HCOUNT.out
      have hbbl : b ≠ bl := H.out.ne1
      clear hnd hdl
      go_wp2_with fail
      go_loopw [25] (fun v wr => ∃ k : Nat, k ≤ nd ∧ v = .int .i64 k ∧ IsRow (fun x => r < x) wr (.slice pv nd cv) (d.dirt.map (Value.int .i64)) ∧ IsDisk wr b bl bm C { d with lasts := d.layTo keep k } ∧ Mod (fun x => x = b ∨ x = bl) w wr) (fun v _ => nd - (intOf v).toNat)
      case atStart =>
        have h := HROW7.out
        refine ⟨0, by omega, rfl, ?_, HD7.out, HW7.out.ofNil⟩
        obtain ⟨p', c', h1, h2⟩ := h
        simp only [List.length_map, Value.slice.injEq] at h1
        obtain ⟨rfl, _, rfl⟩ := h1
        exact ⟨pv, cv, by simp [HND2.out], h2⟩
      case round =>
        obtain ⟨k, hk, rfl, hrow, hd, hmod⟩ := hrel
        have HROW := Lib.hid hrow
        have HD := Lib.hid hd
        have hlaylen : (d.layTo keep k).length = d.lasts.length := d.layTo_length keep k
        obtain ⟨nl, hnl⟩ : ∃ nl, d.lasts.length = nl := ⟨_, rfl⟩
        have hobj : wr.heap[b]? = some (.cells #[.slice (some ⟨bl, 0, none⟩) nl nl, .map (some bm), .int .i64 d.fuse, .int .u32 (b01 d.down)] 88 (0, 0)) := by
          have h := hd.obj
          simp only [hlaylen, hnl] at h
          exact h
        have HNL := Lib.hid hnl
        have HLL := Lib.hid hlaylen
        have c0 : wr.cell? ⟨b, 0, none⟩ = some (.slice (some ⟨bl, 0, none⟩) nl nl) := cell_of hobj 0
        have c1 : wr.cell? ⟨b, 1, none⟩ = some (.map (some bm)) := cell_of hobj 1
        have HOBJ := Lib.hid hobj
        by_cases hlt : k < nd
        · obtain ⟨x, hx⟩ : ∃ x, d.dirt.getD k 0 = x := ⟨_, rfl⟩
          have hkd : k < d.dirt.length := by have := HND2.out; omega
          have hxm : x ∈ d.dirt := by rw [← hx]; simp [hkd]
          obtain ⟨vm2, hmap2, hrel2⟩ := hd.pend
          have hkm : x ∈ vm2.map (·.1) := by rw [hrel2.keys]; exact (dirt_mem d x).1 hxm
          obtain ⟨q, hq, hqx⟩ := List.mem_map.1 hkm
          obtain ⟨x', v2⟩ := q
          simp only at hqx
          subst hqx
          obtain ⟨l2, hfind, hrow2, h64⟩ := hrel2.at hmap2.nodup hq
          have hlook := run_lookup_one (P := Tryz.prog) Tryz.underlying86 Tryz.underlying3 (hmap2.mod (Mod.refl nil wr).drew (not_nil _)) hq
          have hrange : 0 ≤ x' ∧ x' < (nl : Int) := by
            have := hd.keys _ (List.mem_of_find?_eq_some hfind)
            simp only [hlaylen, hnl] at this
            exact this
          obtain ⟨xn, rfl⟩ := Int.eq_ofNat_of_zero_le hrange.1
          have hxn : xn < nl := by omega
          obtain ⟨vl, hl, hvl, _⟩ := hd.lasts
          have hvl' : vl.length = nl := by rw [hvl]; exact hlaylen.trans hnl
          have cx : wr.cell? ⟨bl, xn, none⟩ = some (vl.getD xn undef) := by rw [cell_of hl]; simp [show xn < vl.length by omega]
          have fx : wr.frozen? ⟨bl, xn, none⟩ = false := free_of hl xn
          have HROW2 := Lib.hid hrow2
          obtain ⟨p2, c2, rfl, _⟩ := hrow2
          rw [bys_length] at *
          have HX := Lib.hid hx
          have H64 := Lib.hid h64
          have HF := Lib.hid hfind
          obtain ⟨pr, cr, hpr, hcr⟩ := hrow
          obtain ⟨bb, off, hpb, hrbb, hbbl, hcell⟩ := hcr k (by simpa using hkd)
          simp only [List.length_map, Value.slice.injEq] at hpr
          obtain ⟨rfl, -, rfl⟩ := hpr
          subst hpb
          have hcell' : wr.cell? ⟨bb, off + k, none⟩ = some (.int .i64 (xn : Int)) := by
            rw [hcell]; simp [hkd] ; rw [← hx]; simp [hkd]
          have hat : d.at (xn : Int) = l2 := by unfold DS.at; rw [hfind]
          have HAT := Lib.hid hat
          have hlay : d.layTo keep (k + 1) = if keep.getD k false then (d.layTo keep k).set xn l2 else d.layTo keep k := by
            show (if keep.getD k false then (d.layTo keep k).set (d.dirt.getD k 0).toNat (d.at (d.dirt.getD k 0)) else d.layTo keep k) = _
            rw [hx, hat]; rfl
          have HLAY := Lib.hid hlay
          by_cases hkk : k < keep.length
          · obtain ⟨kb, hkb⟩ : ∃ kb, keep.getD k false = kb := ⟨_, rfl⟩
            have HKB := Lib.hid hkb
            obtain ⟨pk, ck, hpk, hck⟩ := HV.out.mod hmod (fun x _ hx e => e.elim (fun e => hT.1 (e ▸ hx)) (fun e => hT.2 (e ▸ hx)))
            obtain ⟨kbk, koff, hpb, _, _, hkc⟩ := hck k (by simpa using hkk)
            simp only [List.length_map, Value.slice.injEq] at hpk
            obtain ⟨rfl, -, rfl⟩ := hpk
            subst hpb
            have hkc' : wr.cell? ⟨kbk, koff + k, none⟩ = some (.bool kb) := by
              rw [hkc, ← hkb]; simp [hkk]
            clear hkb hat hlay hx h64 hfind hcell hkc hrel2 hmap2 hd hobj hl hvl hvl' hrbb hbbl hcr hck hq hkm hxm hkd hlaylen hnl hrange
            cases kb
            · go_wp2_with fail
              refine ⟨⟨k + 1, by omega, by go_num, HROW.out, ?_, hmod⟩, by simp [intOf]; omega⟩
              rw [HLAY.out, HKB.out]
              simp only [Bool.false_eq_true, if_false]
              exact HD.out
            · have ms : ∀ v, Mod (· = bl) wr (wr.setCell ⟨bl, xn, none⟩ v) := fun v => (Mod.refl _ _).setCell _ _ (fun _ => rfl)
              have cs0 : ∀ v, (wr.setCell ⟨bl, xn, none⟩ v).cell? ⟨b, 0, none⟩ = some (.slice (some ⟨bl, 0, none⟩) nl nl) := fun v => cell_kept c0 (ms v) (heap_lt HOBJ.out) (show b ≠ bl by omega)
              have cs1 : ∀ v, (wr.setCell ⟨bl, xn, none⟩ v).cell? ⟨b, 1, none⟩ = some (.map (some bm)) := fun v => cell_kept c1 (ms v) (heap_lt HOBJ.out) (show b ≠ bl by omega)
              clear ms
              go_wp2_with fail
              go_region_held3 (fun w' => w'.cell? ⟨b, 0, none⟩ = some (.slice (some ⟨bl, 0, none⟩) nl nl) ∧ w'.cell? ⟨b, 1, none⟩ = some (.map (some bm))) (first | exact ⟨c0, c1⟩ | exact ⟨cs0 _, cs1 _⟩) (first | fail)
              go_wp2_with fail
              have hm9 : Mod (· = bl) wr (wr.setCell ⟨bl, xn, none⟩ (.slice p2 l2.length c2)).drew := ((Mod.refl (· = bl) wr).setCell ⟨bl, xn, none⟩ _ (fun _ => rfl)).drew
              refine ⟨⟨k + 1, by omega, by go_num, HROW.out.mod hm9 (fun x _ hx e => by omega), ?_, hmod.trans hm9 (fun x _ hx => .inr hx)⟩, by simp [intOf]; omega⟩
              rw [HLAY.out, HKB.out]
              simp only [if_true]
              exact (HD.out.lay xn (.slice p2 l2.length c2) l2 HROW2.out H64.out).modNil (Mod.refl nil _).drew
          · have hkb : keep.getD k false = false := by simp [show keep.length ≤ k by omega]
            have HKB := Lib.hid hkb
            clear hkb hat hlay hx h64 hfind hcell hrel2 hmap2 hd hobj hl hvl hvl' hrbb hbbl hcr hq hkm hxm hkd hlaylen hnl hrange
            go_wp2_with fail
            refine ⟨⟨k + 1, by omega, by go_num, HROW.out, ?_, hmod⟩, by simp [intOf]; omega⟩
            rw [HLAY.out, HKB.out]
            simp only [Bool.false_eq_true, if_false]
            exact HD.out
        · obtain rfl : k = nd := by omega
          obtain ⟨vm2, hmap2, hrel2⟩ := hd.pend
          obtain ⟨w5, hcl, hmap5, hm5, hz5⟩ := run_clear (P := Tryz.prog) (r := 0) Tryz.underlying86 hmap2
          have HCL := Lib.hid hcl
          have HM5 := Lib.hid hm5
          have HMAP5 := Lib.hid hmap5
          clear hcl hz5 hm5 hmap5 hmap2 hrel2 hd hrow
          go_wp2_with fail
          rw [HCL.out]
          simp only [Result.andThen_ok]
          have hobj5 := (HM5.out.ne b (heap_lt HOBJ.out) (H.out.ne2)).trans HOBJ.out
          have c52 : w5.cell? ⟨b, 2, none⟩ = some (.int .i64 d.fuse) := cell_of hobj5 2
          have f52 : w5.frozen? ⟨b, 2, none⟩ = false := free_of hobj5 2
          have HOBJ5 := Lib.hid hobj5
          clear hobj5
          go_wp2_with fail
          have ho6 := heap_setCell_same HOBJ5.out (off := 2) (.int .i64 (-1))
          have c63 : (w5.setCell ⟨b, 2, none⟩ (.int .i64 (-1))).cell? ⟨b, 3, none⟩ = some (.int .u32 (b01 d.down)) := by rw [cell_of ho6]; rfl
          have f63 : (w5.setCell ⟨b, 2, none⟩ (.int .i64 (-1))).frozen? ⟨b, 3, none⟩ = false := free_of ho6 3
          refine (boolStore b 3 false _ _ c63 f63).mono ?_
          rintro e w8 ⟨rfl, rfl⟩
          have HO6 := Lib.hid ho6
          clear ho6 c63 f63
          go_wp2_with fail
          go_end0
          have ho7 := heap_setCell_same HO6.out (off := 3) (.int .u32 (b01 false))
          have hd := HD.out
          have hm5 := HM5.out
          have m6 : Mod (· = b) w5 (((w5.setCell ⟨b, 2, none⟩ (.int .i64 (-1))).setCell ⟨b, 3, none⟩ (.int .u32 (b01 false))).drew) := (((Mod.refl (· = b) w5).setCell ⟨b, 2, none⟩ _ (fun _ => rfl)).setCell ⟨b, 3, none⟩ _ (fun _ => rfl)).drew
          refine ⟨rfl, ?_, ((hmod.mono (fun k _ hk => hk.elim .inl (fun e => .inr (.inl e)))).trans hm5 (fun k _ hk => .inr (.inr hk))).trans m6 (fun k _ hk => .inl hk)⟩
          obtain ⟨vl, hl, hvl, hrows⟩ := hd.lasts
          have hll := HLL.out
          have hnl := HNL.out
          have hC5 : ∀ x, x < wr.heap.size → C x → ¬ x = bm := fun x _ hx e => hd.c3 (e ▸ hx)
          have hC6 : ∀ x, x < w5.heap.size → C x → ¬ x = b := fun x _ hx e => hd.c1 (e ▸ hx)
          have hl5 := (hm5.ne bl (heap_lt hl) hd.ne3).trans hl
          have hcr : d.crash keep = ⟨d.layTo keep k, [], -1, false⟩ := by unfold DS.crash; rw [HND2.out]
          rw [hcr]
          exact { obj := by simpa [hll, hnl, World.drew] using ho7
                  lasts := ⟨vl, (m6.ne bl (heap_lt hl5) (Ne.symm hd.ne1)).trans hl5, hvl, fun i a a' => ⟨((hrows i a a').1.mod hm5 hC5).mod m6 hC6, (hrows i a a').2⟩⟩
                  pend := ⟨[], HMAP5.out.mod m6 (Ne.symm hd.ne2), by simp [PRel]⟩
                  keys := by simp
                  room := hd.room
                  fz := by simp
                  ne1 := hd.ne1, ne2 := hd.ne2, ne3 := hd.ne3, c1 := hd.c1, c2 := hd.c2, c3 := hd.c3 }
    · have HIN := Lib.hid hin
      have HIT4 := Lib.hid hit4
      have HM4 := Lib.hid hm4
      have HZ4 := Lib.hid hz4
      obtain ⟨i0, hi, hz0, hz1, hz2⟩ := info_parts info_int
      have hvec4 := hvec.mod hm4 (fun x _ hx e => by omega)
      have ha4 : Mod nil w4 (w4.alloc (.cells #[.int .i64 k] 3)) := (Mod.refl nil w4).alloc _
      have hx : IsCells (fun x => r < x) (w4.alloc (.cells #[.int .i64 k] 3)) (.slice (some ⟨w4.heap.size, 0, none⟩) 1 1) 1 [.int .i64 k] :=
        ⟨_, 1, rfl, fun i hi => ⟨w4.heap.size, 0, rfl, by omega, by simp, by
          have : i = 0 := by simpa using hi
          subst this
          rw [cell_of (heap_alloc_new w4 (.cells #[.int .i64 k] 3))]; rfl⟩⟩
      have hroom : done.length + 1 ≤ 8192 := by
        have h1 := HPERM.out.length_eq
        have h2 := HCOUNT.out
        have h3 : 0 < left.length := List.length_pos_of_mem hin
        simp at h1
        omega
      obtain ⟨v6, w6, hrun6, hvec6, hm6⟩ := vec_append (P := Tryz.prog) 90 90 3 i0 (.int .i64 0) 1 8 Tryz.underlying90 hi hz0 hz1 hz2 rfl (by omega) (hvec4.modNil ha4) hx rfl (by simp [Value.oneCell']) (by unfold maxLen; omega) (by omega)
      have HRUN6 := Lib.hid hrun6
      have HVEC6 := Lib.hid hvec6
      have HM6 := Lib.hid hm6
      have HA4 := Lib.hid ha4
      have HLEFT := Lib.hid hit.left
      obtain ⟨pv6, cv6, rfl⟩ := hvec6.form
      clear hit hvec hperm hnd hin hit4 hm4 hz4 hi hz0 hz1 hz2 hvec4 ha4 hx hrun6 hvec6 hm6
      go_wp2_with (first | (at_builtin; refine wpList_append_run rfl _ _ _ _ rfl rfl rfl HRUN6.out ?_))
      have hs4 : r < (w4.alloc (.cells #[.int .i64 k] 3)).heap.size := by have := HZ4.out; simp; omega
      have hr := HR.out
      have hm6 := HM6.out
      have hmw : Mod nil w w6 := (((hmod.new HM4.out (fun i hi => by omega)).thenNil HA4.out)).new hm6 (fun i hi => by omega)
      have hit6 := (HIT4.out.mod HA4.out (not_nil _) (not_nil _)).mod hm6 (by omega) (by omega)
      refine ⟨⟨_, done ++ [k], hit6, ?_, ?_, nodup_left HND.out, hmw, Nat.lt_of_lt_of_le hs4 hm6.size⟩, ?_⟩
      · have := HVEC6.out.mono (T := fun x => r < x) (fun x _ hx => by rcases hx with h | h <;> omega)
        simpa using this
      · refine List.Perm.trans ?_ HPERM.out
        rw [List.append_assoc]
        exact List.Perm.append_left _ (perm_key HND.out HIN.out).symm
      · rw [hit6.left, HLEFT.out]; exact filter_less HIN.out
end Go.Proofs.YtdfahddpkkeldaaGreat

/- The walks over package disk: what each call does to a disk said plainly (DS). -/
import Derived.Test.YtdfahddpkkeldaaGreatNb
import Derived.Test.YtdfahddpkkeldaaGreatMap
namespace Go.Proofs.YtdfahddpkkeldaaGreat
open Go.RowKit
/-- a disk, said plainly -/
structure DS where
 lasts : List (List UInt8)
 pend : List (Int × List UInt8)
 fuse : Int
 down : Bool
def bput (m : List (Int × List UInt8)) (k : Int) (v : List UInt8) : List (Int × List UInt8) :=
 if k ∈ m.map (·.1) then m.map (fun p => if p.1 = k then (k, v) else p) else m ++ [(k, v)]
def b01 (b : Bool) : Int := if b then 1 else 0
/-- pairs of a map whose values read as bytes -/
def PRel (C : Nat → Prop) (w : World) (vm : List (Int × Value)) (pend : List (Int × List UInt8)) : Prop :=
 vm.length = pend.length ∧ ∀ i (h : i < vm.length) (h' : i < pend.length), vm[i].1 = pend[i].1 ∧ IsRow C w vm[i].2 (bys pend[i].2) ∧ pend[i].2.length = 64
/-- the object: block b; its list of sectors: bl; its map: bm; the sectors' bytes lie in blocks of C -/
structure IsDisk (w : World) (b bl bm : Nat) (C : Nat → Prop) (d : DS) : Prop where
 obj : w.heap[b]? = some (.cells #[.slice (some ⟨bl, 0, none⟩) d.lasts.length d.lasts.length, .map (some bm), .int .i64 d.fuse, .int .u32 (b01 d.down)] 88 (0, 0))
 lasts : ∃ vl : List Value, w.heap[bl]? = some (.cells vl.toArray 40 (0, 0)) ∧ vl.length = d.lasts.length ∧ ∀ i (h : i < vl.length) (h' : i < d.lasts.length), IsRow C w vl[i] (bys d.lasts[i]) ∧ d.lasts[i].length = 64
 pend : ∃ vm, IMap w bm vm ∧ PRel C w vm d.pend
 keys : ∀ p ∈ d.pend, 0 ≤ p.1 ∧ p.1 < d.lasts.length
 room : d.lasts.length ≤ 8192
 fz : -1 ≤ d.fuse ∧ d.fuse ≤ 9223372036854775807
 ne1 : b ≠ bl
 ne2 : b ≠ bm
 ne3 : bl ≠ bm
 c1 : ¬ C b
 c2 : ¬ C bl
 c3 : ¬ C bm
/-- all that a disk's blocks are -/
def foot (b bl bm : Nat) (C : Nat → Prop) : Nat → Prop := fun k => k = b ∨ k = bl ∨ k = bm ∨ C k
theorem PRel.mod {C T : Nat → Prop} {w w' : World} {vm : List (Int × Value)} {pend : List (Int × List UInt8)} (h : PRel C w vm pend) (m : Mod T w w') (hs : ∀ k, k < w.heap.size → C k → ¬ T k) : PRel C w' vm pend :=
 ⟨h.1, fun i h1 h2 => ⟨(h.2 i h1 h2).1, (h.2 i h1 h2).2.1.mod m hs, (h.2 i h1 h2).2.2⟩⟩
theorem PRel.mono {C D : Nat → Prop} {w : World} {vm : List (Int × Value)} {pend : List (Int × List UInt8)} (h : PRel C w vm pend) (hs : ∀ k, k < w.heap.size → C k → D k) : PRel D w vm pend :=
 ⟨h.1, fun i h1 h2 => ⟨(h.2 i h1 h2).1, (h.2 i h1 h2).2.1.mono hs, (h.2 i h1 h2).2.2⟩⟩
theorem IsDisk.mod {C T : Nat → Prop} {w w' : World} {b bl bm : Nat} {d : DS} (h : IsDisk w b bl bm C d) (m : Mod T w w') (hs : ∀ k, k < w.heap.size → foot b bl bm C k → ¬ T k) : IsDisk w' b bl bm C d := by
  obtain ⟨vl, h1, h2, h3⟩ := h.lasts
  obtain ⟨vm, h4, h5⟩ := h.pend
  exact { h with
    obj := (m.block b (heap_lt h.obj) (hs b (heap_lt h.obj) (.inl rfl))).trans h.obj
    lasts := ⟨vl, (m.block bl (heap_lt h1) (hs bl (heap_lt h1) (.inr (.inl rfl)))).trans h1, h2, fun i a a' => ⟨(h3 i a a').1.mod m (fun k hk hc => hs k hk (.inr (.inr (.inr hc)))), (h3 i a a').2⟩⟩
    pend := ⟨vm, h4.mod m (hs bm h4.lt (.inr (.inr (.inl rfl)))), h5.mod m (fun k hk hc => hs k hk (.inr (.inr (.inr hc))))⟩ }
theorem IsDisk.modNil {C : Nat → Prop} {w w' : World} {b bl bm : Nat} {d : DS} (h : IsDisk w b bl bm C d) (m : Mod nil w w') : IsDisk w' b bl bm C d := h.mod m (fun _ _ _ f => f)
def DS.sector (d : DS) (i : Int) : Int := if d.down then 13 else if i < 0 ∨ (d.lasts.length : Int) ≤ i then 1 else 0
def DS.burn (d : DS) : DS := if d.fuse = 0 then { d with down := true } else if 0 < d.fuse then { d with fuse := d.fuse - 1 } else d
def DS.holds (d : DS) : Bool := !(d.fuse == 0)
theorem boolLoad (b o : Nat) (x : Bool) (w : World) (hc : w.cell? ⟨b, o, none⟩ = some (.int .u32 (b01 x))) :
  Calls Tryz.prog 75 #[.pointer (some ⟨b, o, none⟩)] w fun e w' => e = .returned (.bool x) ∧ w = w' := by
 cases x
 all_goals
  have hl := run_call_load (P := Tryz.prog) Tryz.func110 (by kernel_rfl) (by kernel_rfl) (by kernel_rfl) .u32 (by kernel_rfl) hc
  simp only [b01] at hl
  go_enter Tryz.func75, Tryz.ntmps75
  go_wp2
  go_ret
  exact ⟨by simp, rfl⟩
theorem atomicB32 (x : Bool) (w : World) : Calls Tryz.prog 74 #[.bool x] w fun e w' => e = .returned (.int .u32 (b01 x)) ∧ w' = w := by
 cases x
 all_goals
  go_enter Tryz.func74, Tryz.ntmps74
  go_wp2
  go_ret
  exact ⟨rfl, rfl⟩
theorem boolStore (b o : Nat) (x : Bool) (u : Value) (w : World) (hc : w.cell? ⟨b, o, none⟩ = some u) (hz : w.frozen? ⟨b, o, none⟩ = false) :
  Calls Tryz.prog 40 #[.pointer (some ⟨b, o, none⟩), .bool x] w fun e w' => e = .returned (.tuple #[]) ∧ w' = (w.setCell ⟨b, o, none⟩ (.int .u32 (b01 x))).drew := by
 have hs := run_call_store (P := Tryz.prog) (w := w.drew) Tryz.func73 (by kernel_rfl) (by kernel_rfl) (by kernel_rfl) (by kernel_rfl) (k := .u32) (y := b01 x) hc hz
 go_enter Tryz.func40, Tryz.ntmps40
 go_wp2_with fail
 go_region_held3 (fun _ => True) (trivial) (first | (go_at_call 74; refine (atomicB32 _ _).mono ?_; rintro e w' ⟨rfl, rfl⟩))
 go_end0
 exact ⟨rfl, rfl⟩
theorem diskLen (b bl bm : Nat) (C : Nat → Prop) (d : DS) (w : World) (h : IsDisk w b bl bm C d) :
  Calls Tryz.prog 116 #[.pointer (some ⟨b, 0, none⟩)] w fun e w' => e = .returned (.int .i64 d.lasts.length) ∧ w = w' := by
 have c0 : w.cell? ⟨b, 0, none⟩ = _ := cell_of h.obj 0
 simp at c0
 go_enter Tryz.func116, Tryz.ntmps116
 go_wp2
 go_ret
 exact ⟨rfl, rfl⟩
theorem diskDown (b bl bm : Nat) (C : Nat → Prop) (d : DS) (w : World) (h : IsDisk w b bl bm C d) :
  Calls Tryz.prog 54 #[.pointer (some ⟨b, 0, none⟩)] w fun e w' => e = .returned (.bool d.down) ∧ w = w' := by
 have c3 : w.cell? ⟨b, 3, none⟩ = some (.int .u32 (b01 d.down)) := cell_of h.obj 3
 go_enter Tryz.func54, Tryz.ntmps54
 go_wp2_with (go_at_call 75; refine (boolLoad _ _ _ _ c3).mono ?_; rintro e w' ⟨rfl, rfl⟩)
 go_ret
 exact ⟨rfl, rfl⟩
theorem diskSector (b bl bm : Nat) (C : Nat → Prop) (d : DS) (i : Int) (w : World) (h : IsDisk w b bl bm C d) :
  Calls Tryz.prog 41 #[.pointer (some ⟨b, 0, none⟩), .int .i64 i] w fun e w' => e = .returned (.int .i64 (d.sector i)) ∧ w = w' := by
 have c0 : w.cell? ⟨b, 0, none⟩ = _ := cell_of h.obj 0
 simp at c0
 have c3 : w.cell? ⟨b, 3, none⟩ = some (.int .u32 (b01 d.down)) := cell_of h.obj 3
 have hroom := h.room
 unfold DS.sector
 clear h
 obtain ⟨lasts, pend, fuse, down⟩ := d
 simp only at *
 generalize lasts.length = n at *
 cases down
 ·have hcase : (i < 0) ∨ (0 ≤ i ∧ (n : Int) ≤ i) ∨ (0 ≤ i ∧ i < n) := by omega
  rcases hcase with h1 | ⟨h1, h2⟩ | ⟨h1, h2⟩
  all_goals
   go_enter Tryz.func41, Tryz.ntmps41
   go_wp2_with (go_at_call 75; refine (boolLoad _ _ _ _ c3).mono ?_; rintro e w' ⟨rfl, rfl⟩)
   go_ret
   exact ⟨by simp; try omega, rfl⟩
 ·go_enter Tryz.func41, Tryz.ntmps41
  go_wp2_with (go_at_call 75; refine (boolLoad _ _ _ _ c3).mono ?_; rintro e w' ⟨rfl, rfl⟩)
  go_ret
  exact ⟨by simp, rfl⟩
/-- the object's cells alone turn -/
theorem IsDisk.set {w w' : World} {b bl bm : Nat} {C : Nat → Prop} {d : DS} (h : IsDisk w b bl bm C d) (fuse : Int) (down : Bool) (hz : -1 ≤ fuse ∧ fuse ≤ 9223372036854775807) (m : Mod (· = b) w w')
    (hb : w'.heap[b]? = some (.cells #[.slice (some ⟨bl, 0, none⟩) d.lasts.length d.lasts.length, .map (some bm), .int .i64 fuse, .int .u32 (b01 down)] 88 (0, 0))) :
    IsDisk w' b bl bm C { d with fuse := fuse, down := down } := by
  obtain ⟨vl, h1, h2, h3⟩ := h.lasts
  obtain ⟨vm, h4, h5⟩ := h.pend
  have hC : ∀ k, k < w.heap.size → C k → ¬ (k = b) := fun k _ hc e => h.c1 (e ▸ hc)
  exact { h with
    obj := hb
    fz := hz
    lasts := ⟨vl, (m.ne bl (heap_lt h1) (Ne.symm h.ne1)).trans h1, h2, fun i a a' => ⟨(h3 i a a').1.mod m hC, (h3 i a a').2⟩⟩
    pend := ⟨vm, h4.mod m (fun e => h.ne2 e.symm), h5.mod m hC⟩ }
theorem diskFuse (b bl bm : Nat) (C : Nat → Prop) (d : DS) (n : Int) (w : World) (h : IsDisk w b bl bm C d) (hn : n ≤ 9223372036854775807) :
  Calls Tryz.prog 15 #[.pointer (some ⟨b, 0, none⟩), .int .i64 n] w fun e w' => e = .returned (.tuple #[]) ∧ IsDisk w' b bl bm C { d with fuse := max n (-1) } ∧ Mod (· = b) w w' := by
 have c2 : w.cell? ⟨b, 2, none⟩ = some (.int .i64 d.fuse) := cell_of h.obj 2
 have f2 : w.frozen? ⟨b, 2, none⟩ = false := free_of h.obj 2
 have hc : max n (-1) = n ∨ max n (-1) = -1 := by omega
 have fin : ∀ x, max n (-1) = x → IsDisk (w.setCell ⟨b, 2, none⟩ (.int .i64 x)) b bl bm C { d with fuse := max n (-1) } ∧ Mod (· = b) w (w.setCell ⟨b, 2, none⟩ (.int .i64 x)) := by
  intro x hx
  have hm : Mod (· = b) w (w.setCell ⟨b, 2, none⟩ (.int .i64 x)) := (Mod.refl _ _).setCell _ _ (fun _ => rfl)
  exact ⟨h.set _ d.down (by omega) hm (by rw [heap_setCell_same h.obj, hx]; rfl), hm⟩
 have HF := Lib.hid fin
 clear fin h hc
 rcases Int.lt_or_le n (-1) with h1 | h1
 all_goals
  go_enter Tryz.func15, Tryz.ntmps15
  go_wp2
  go_end0
  exact ⟨rfl, HF.out _ (by omega)⟩
theorem diskBurns (b bl bm : Nat) (C : Nat → Prop) (d : DS) (w : World) (h : IsDisk w b bl bm C d) :
  Calls Tryz.prog 42 #[.pointer (some ⟨b, 0, none⟩)] w fun e w' => e = .returned (.bool d.holds) ∧ IsDisk w' b bl bm C d.burn ∧ Mod (· = b) w w' := by
 have c2 : w.cell? ⟨b, 2, none⟩ = some (.int .i64 d.fuse) := cell_of h.obj 2
 have f2 : w.frozen? ⟨b, 2, none⟩ = false := free_of h.obj 2
 have c3 : w.cell? ⟨b, 3, none⟩ = some (.int .u32 (b01 d.down)) := cell_of h.obj 3
 have f3 : w.frozen? ⟨b, 3, none⟩ = false := free_of h.obj 3
 have hf1 := h.fz.1
 have hf2 := h.fz.2
 have hcase : d.fuse = 0 ∨ (d.fuse ≠ 0 ∧ 0 < d.fuse) ∨ (d.fuse ≠ 0 ∧ d.fuse < 0) := by omega
 rcases hcase with h1 | ⟨h1, h2⟩ | ⟨h1, h2⟩
 ·have hm : Mod (· = b) w (w.setCell ⟨b, 3, none⟩ (.int .u32 (b01 true))).drew := ((Mod.refl (· = b) w).setCell _ _ (fun _ => rfl)).drew
  have hd : IsDisk (w.setCell ⟨b, 3, none⟩ (.int .u32 (b01 true))).drew b bl bm C d.burn := by
   unfold DS.burn; rw [if_pos h1]
   exact h.set d.fuse true h.fz hm (by show (w.setCell ⟨b, 3, none⟩ (.int .u32 (b01 true))).heap[b]? = _; rw [heap_setCell_same h.obj]; rfl)
  have hr : d.holds = false := by simp [DS.holds, h1]
  have HD := Lib.hid hd
  have HR := Lib.hid hr
  have h0 : (d.fuse == 0) = true := by simp [h1]
  clear hd hr h h1
  go_enter Tryz.func42, Tryz.ntmps42
  go_wp2_with (go_at_call 40; refine (boolStore _ _ _ _ _ c3 f3).mono ?_; rintro e w' ⟨rfl, rfl⟩)
  go_ret
  exact ⟨by rw [HR.out]; rfl, HD.out, hm⟩
 ·have hm : Mod (· = b) w (w.setCell ⟨b, 2, none⟩ (.int .i64 (d.fuse - 1))) := (Mod.refl (· = b) w).setCell _ _ (fun _ => rfl)
  have hd : IsDisk (w.setCell ⟨b, 2, none⟩ (.int .i64 (d.fuse - 1))) b bl bm C d.burn := by
   unfold DS.burn; rw [if_neg h1, if_pos h2]
   exact h.set (d.fuse - 1) d.down (by omega) hm (by rw [heap_setCell_same h.obj]; rfl)
  have hr : d.holds = true := by simp [DS.holds, h1]
  have HD := Lib.hid hd
  have HR := Lib.hid hr
  have h0 : (d.fuse == 0) = false := by simp [h1]
  clear hd hr h
  go_enter Tryz.func42, Tryz.ntmps42
  go_wp2_with fail
  go_ret
  exact ⟨by rw [HR.out]; rfl, HD.out, hm⟩
 ·have hd : IsDisk w b bl bm C d.burn := by
   unfold DS.burn; rw [if_neg h1, if_neg (by omega)]; exact h
  have hr : d.holds = true := by simp [DS.holds, h1]
  have HD := Lib.hid hd
  have HR := Lib.hid hr
  have h0 : (d.fuse == 0) = false := by simp [h1]
  clear hd hr h
  go_enter Tryz.func42, Tryz.ntmps42
  go_wp2_with fail
  go_ret
  exact ⟨by rw [HR.out]; rfl, HD.out, Mod.refl _ _⟩
theorem PRel.put {C C' : Nat → Prop} {w w' : World} {vm : List (Int × Value)} {pend : List (Int × List UInt8)} (h : PRel C w vm pend) (hc : ∀ i (h : i < vm.length) (h' : i < pend.length), IsRow C' w' vm[i].2 (bys pend[i].2)) (k : Int) (v : Value) (l : List UInt8) (hv : IsRow C' w' v (bys l)) (hl : l.length = 64) :
  PRel C' w' (iput vm k v) (bput pend k l) := by
 obtain ⟨hlen, hall⟩ := h
 have hkeys : vm.map (·.1) = pend.map (·.1) := by
  apply List.ext_getElem (by simp [hlen])
  intro i h1 h2
  simp at h1 h2
  simp [(hall i h1 h2).1]
 unfold iput bput
 rw [hkeys]
 split
 ·refine ⟨by simp [hlen], fun i h1 h2 => ?_⟩
  simp at h1 h2
  obtain ⟨e1, _, e3⟩ := hall i h1 h2
  simp only [List.getElem_map, e1]
  split
  ·exact ⟨rfl, hv, hl⟩
  ·exact ⟨e1, hc i h1 h2, e3⟩
 ·refine ⟨by simp [hlen], fun i h1 h2 => ?_⟩
  by_cases hi : i < vm.length
  ·have hi' : i < pend.length := by omega
   rw [List.getElem_append_left hi, List.getElem_append_left hi']
   exact ⟨(hall i hi hi').1, hc i hi hi', (hall i hi hi').2.2⟩
  ·have hi' : ¬ i < pend.length := by omega
   have he : i = vm.length := by simp at h1; omega
   subst he
   rw [List.getElem_append_right (by omega), List.getElem_append_right (by omega)]
   simp [hlen]
   exact ⟨hv, hl⟩
theorem bput_mem {m : List (Int × List UInt8)} {k : Int} {v : List UInt8} {q : Int × List UInt8} (h : q ∈ bput m k v) : q ∈ m ∨ q = (k, v) := by
 unfold bput at h
 split at h
 ·obtain ⟨x, hx, rfl⟩ := List.mem_map.1 h
  split
  ·exact .inr rfl
  ·exact .inl hx
 ·rcases List.mem_append.1 h with h | h
  ·exact .inl h
  ·exact .inr (by simpa using h)
def DS.write (d : DS) (i : Int) (l : List UInt8) : DS × Int :=
 if d.sector i ≠ 0 then (d, d.sector i) else if l.length ≠ 64 then (d, 2) else if d.holds = false then (d.burn, 13) else ({ d.burn with pend := bput d.pend i l }, 0)
theorem DS.burn_lasts (d : DS) : d.burn.lasts = d.lasts ∧ d.burn.pend = d.pend := by unfold DS.burn; split <;> (try split) <;> exact ⟨rfl, rfl⟩
theorem DS.sector_ok {d : DS} {i : Int} (h : d.sector i = 0) : d.down = false ∧ 0 ≤ i ∧ i < d.lasts.length := by
 unfold DS.sector at h
 split at h
 ·cases h
 ·split at h
  ·cases h
  ·rename_i h1 h2; exact ⟨by simpa using h1, by omega, by omega⟩
set_option maxHeartbeats 1000000 in
theorem diskWrite (b bl bm : Nat) (C T : Nat → Prop) (d : DS) (i : Int) (v : Value) (l : List UInt8) (w : World) (h : IsDisk w b bl bm C d) (hv : IsRow T w v (bys l)) (hT : ¬ T b) (_hn : l.length ≤ 9223372036854775807) :
    Calls Tryz.prog 17 #[.pointer (some ⟨b, 0, none⟩), .int .i64 i, v] w fun e w' => ∃ C', e = .returned (.int .i64 (d.write i l).2) ∧ IsDisk w' b bl bm C' (d.write i l).1 ∧ (∀ k, C' k → C k ∨ w.heap.size ≤ k) ∧ Mod (fun k => k = b ∨ k = bm) w w' := by
  have HV := Lib.hid hv
  obtain ⟨p, c, rfl, hc⟩ := hv
  rw [bys_length] at *
  clear hc
  by_cases hs : d.sector i = 0
  · by_cases h64 : l.length = 64
    · have hsec := DS.sector_ok hs
      have hbl := d.burn_lasts
      cases hh : d.holds
      · have hr : d.write i l = (d.burn, 13) := by simp [DS.write, hs, h64, hh]
        rw [hr]
        have HS := Lib.hid hs
        have HH := Lib.hid hh
        rw [h64]
        clear hr hs h64 hh hbl
        go_enter Tryz.func17, Tryz.ntmps17
        go_wp2_with fail
        refine (diskSector _ _ _ _ _ _ _ h).mono ?_
        rw [HS.out]
        rintro e w' ⟨rfl, rfl⟩
        go_wp2_with fail
        refine (diskBurns _ _ _ _ _ _ h).mono ?_
        rw [HH.out]
        rintro e w2 ⟨rfl, hd2, hm2⟩
        go_wp2_with fail
        go_ret
        exact ⟨C, rfl, hd2, fun k hk => .inl hk, hm2.mono (fun k _ hk => .inl hk)⟩
      · have hr : d.write i l = ({ d.burn with pend := bput d.pend i l }, 0) := by simp [DS.write, hs, h64, hh]
        rw [hr]
        have HS := Lib.hid hs
        have HH := Lib.hid hh
        have H64 := Lib.hid h64
        have hb : ((l.length : Int) != 64) = false := by rw [h64]; rfl
        clear hr hs hh h64
        go_enter Tryz.func17, Tryz.ntmps17
        go_wp2_with fail
        refine (diskSector _ _ _ _ _ _ _ h).mono ?_
        rw [HS.out]
        rintro e w' ⟨rfl, rfl⟩
        go_wp2_with fail
        refine (diskBurns _ _ _ _ _ _ h).mono ?_
        rw [HH.out]
        rintro e w2 ⟨rfl, hd2, hm2⟩
        go_wp2_with fail
        have c1 : w2.cell? ⟨b, 1, none⟩ = some (.map (some bm)) := cell_of hd2.obj 1
        have HV2 := Lib.hid (HV.out.mod hm2 (fun k _ hk e => hT (e ▸ hk)))
        obtain ⟨vm, hm, hrel⟩ := hd2.pend
        have HM := Lib.hid hm
        have HREL := Lib.hid hrel
        clear hm hrel
        have hlb := heap_lt hd2.obj
        go_region_held3 (fun w' => w'.cell? ⟨b, 1, none⟩ = some (.map (some bm))) (first | with_reducible assumption | exact c1)
          (first | (go_at_call 43; refine (cloneBytes T _ l _ (HV2.out.modNil (Mod.refl _ _).drew) ?_).mono ?_; (have := H64.out; omega); rintro e w8 ⟨v8, rfl, hv8, hm8'⟩; have hm8 := (Mod.refl nil w2).drew.thenNil hm8'; clear hm8'; have c18 := cell_kept c1 hm8 hlb (not_nil _); obtain ⟨w9, hrun9, hmap9, hm9, hsz9⟩ := run_update (P := Tryz.prog) Tryz.underlying86 Tryz.underlying3 (HM.out.mod hm8 (not_nil _)) i v8; have c19 := cell_kept c18 hm9 (Nat.lt_of_lt_of_le hlb hm8.size) h.ne2))
        have hbl1 := hbl.1
        clear hrun9
        go_wp2_with fail
        go_ret
        have hrow8 := hv8.row
        have hC8 : ∀ k, k < w8.heap.size → (C k ∨ (w.heap.size ≤ k ∧ k ≠ b ∧ k ≠ bl ∧ k ≠ bm)) → ¬ k = bm := fun k _ hk e => by
          rcases hk with hk | hk
          · exact h.c3 (e ▸ hk)
          · exact hk.2.2.2 e
        have lb := heap_lt h.obj
        obtain ⟨vl, hl1, hl2, hl3⟩ := h.lasts
        obtain ⟨vm0, hvm0, _⟩ := h.pend
        have lbl := heap_lt hl1
        have lbm := hvm0.lt
        have s2 := hm2.size
        have hnew : ∀ k, w2.heap.size ≤ k → (w.heap.size ≤ k ∧ k ≠ b ∧ k ≠ bl ∧ k ≠ bm) := fun k hk => by omega
        have hd8 := hd2.modNil hm8
        obtain ⟨vl8, hl81, hl82, hl83⟩ := hd8.lasts
        refine ⟨fun k => C k ∨ (w.heap.size ≤ k ∧ k ≠ b ∧ k ≠ bl ∧ k ≠ bm), rfl, ?_, fun k hk => hk.imp id (fun h => h.1), ?_⟩
        · refine { hd8 with
            obj := (hm9.ne b (heap_lt hd8.obj) h.ne2).trans hd8.obj
            lasts := ⟨vl8, (hm9.ne bl (heap_lt hl81) h.ne3).trans hl81, hl82, fun j a a' => ⟨((hl83 j a a').1.mono (fun k _ hk => .inl hk)).mod hm9 hC8, (hl83 j a a').2⟩⟩
            pend := ⟨_, hmap9, ?_⟩
            keys := ?_
            c1 := fun hk => hk.elim h.c1 (fun hk => hk.2.1 rfl)
            c2 := fun hk => hk.elim h.c2 (fun hk => hk.2.2.1 rfl)
            c3 := fun hk => hk.elim h.c3 (fun hk => hk.2.2.2 rfl) }
          · have hrel := HREL.out
            rw [hbl.2] at hrel
            exact hrel.put (fun j a a' => (((hrel.2 j a a').2.1.modNil hm8).mono (fun k _ hk => .inl hk)).mod hm9 hC8) i v8 l ((hrow8.mono (fun k _ hk => .inr (hnew k hk))).mod hm9 hC8) H64.out
          · intro q hq
            show 0 ≤ q.1 ∧ q.1 < d.burn.lasts.length
            rw [hbl.1]
            rcases bput_mem hq with hq | hq
            · exact h.keys q hq
            · rw [hq]; exact hsec.2
        · have m1 : Mod (fun k => k = b ∨ k = bm) w w8 := (hm2.mono (fun k _ hk => .inl hk)).thenNil hm8
          exact m1.trans hm9 (fun k _ hk => .inr hk)
    · have hr : d.write i l = (d, 2) := by simp [DS.write, hs, h64]
      rw [hr]
      have hb : ((l.length : Int) != 64) = true := by rw [bne_iff_ne]; omega
      have HS := Lib.hid hs
      have HD := Lib.hid h
      clear h64 hr hs
      go_enter Tryz.func17, Tryz.ntmps17
      go_wp2_with fail
      refine (diskSector _ _ _ _ _ _ _ h).mono ?_
      rw [HS.out]
      rintro e w' ⟨rfl, rfl⟩
      go_wp2_with fail
      go_ret
      exact ⟨C, rfl, HD.out, fun k hk => .inl hk, Mod.refl _ _⟩
  · have hr : d.write i l = (d, d.sector i) := by simp [DS.write, hs]
    rw [hr]
    have hb : (d.sector i != 0) = true := by rw [bne_iff_ne]; exact hs
    have HD := Lib.hid h
    clear hr hs
    go_enter Tryz.func17, Tryz.ntmps17
    go_wp2_with fail
    refine (diskSector _ _ _ _ _ _ _ h).mono ?_
    rintro e w' ⟨rfl, rfl⟩
    go_wp2_with fail
    go_ret
    exact ⟨C, rfl, HD.out, fun k hk => .inl hk, Mod.refl _ _⟩
def DS.read (d : DS) (i : Int) : List UInt8 × Int :=
 if d.sector i ≠ 0 then ([], d.sector i) else match d.pend.find? (fun p => p.1 == i) with
  | some p => (p.2, 0)
  | none => (d.lasts.getD i.toNat [], 0)
theorem PRel.keys {C : Nat → Prop} {w : World} {vm : List (Int × Value)} {pend : List (Int × List UInt8)} (h : PRel C w vm pend) : vm.map (·.1) = pend.map (·.1) := by
 apply List.ext_getElem (by simp [h.1])
 intro i h1 h2
 simp at h1 h2
 simp [(h.2 i h1 h2).1]
/-- what a key leads to, in both -/
theorem PRel.find {C : Nat → Prop} {w : World} {vm : List (Int × Value)} {pend : List (Int × List UInt8)} (h : PRel C w vm pend) (hn : (vm.map (·.1)).Nodup) (k : Int) :
    (k ∉ vm.map (·.1) ∧ pend.find? (fun p => p.1 == k) = none) ∨ ∃ v l, (k, v) ∈ vm ∧ (k, l) ∈ pend ∧ pend.find? (fun p => p.1 == k) = some (k, l) ∧ IsRow C w v (bys l) ∧ l.length = 64 := by
  by_cases hk : k ∈ vm.map (·.1)
  · right
    obtain ⟨x, hx, hx2⟩ := List.mem_map.1 hk
    obtain ⟨j, hj, rfl⟩ := List.getElem_of_mem hx
    have hj' : j < pend.length := by rw [← h.1]; exact hj
    obtain ⟨e1, e2, e3⟩ := h.2 j hj hj'
    have hfind : pend.find? (fun p => p.1 == k) = some pend[j] := by
      rw [List.find?_eq_some_iff_getElem]
      refine ⟨by simp [← e1, hx2], j, hj', rfl, fun q hq => ?_⟩
      have hnd : (pend.map (·.1)).Nodup := h.keys ▸ hn
      simp only [Bool.not_eq_true', beq_eq_false_iff_ne]
      intro e
      have e4 : (pend.map (·.1))[q]'(by simp; omega) = (pend.map (·.1))[j]'(by simpa) := by simp [e, ← e1, hx2]
      have := (List.getElem_inj hnd).1 e4
      omega
    have hp : pend[j] = (k, pend[j].2) := by
      ext
      · simp [← e1, hx2]
      · rfl
    have hv : vm[j] = (k, vm[j].2) := by
      ext
      · simp [hx2]
      · rfl
    exact ⟨vm[j].2, pend[j].2, hv ▸ List.getElem_mem hj, hp ▸ List.getElem_mem hj', by rw [hfind, ← hp], e2, e3⟩
  · left
    refine ⟨hk, ?_⟩
    rw [List.find?_eq_none]
    intro x hx
    simp only [beq_iff_eq]
    intro e
    apply hk
    rw [h.keys]
    exact List.mem_map.2 ⟨x, hx, e⟩
/-- a pair of the map, and what it reads as -/
theorem PRel.at {C : Nat → Prop} {w : World} {vm : List (Int × Value)} {pend : List (Int × List UInt8)} (h : PRel C w vm pend) (hn : (vm.map (·.1)).Nodup) {k : Int} {v : Value} (hkv : (k, v) ∈ vm) :
    ∃ l, pend.find? (fun p => p.1 == k) = some (k, l) ∧ IsRow C w v (bys l) ∧ l.length = 64 := by
  rcases h.find hn k with ⟨h1, _⟩ | ⟨v2, l2, h1, h2, h3, h4, h5⟩
  · exact absurd (List.mem_map.2 ⟨_, hkv, rfl⟩) h1
  · have : v2 = v := by
      obtain ⟨i, hi, e1⟩ := List.getElem_of_mem h1
      obtain ⟨j, hj, e2⟩ := List.getElem_of_mem hkv
      have e3 : (vm.map (·.1))[i]'(by simpa) = (vm.map (·.1))[j]'(by simpa) := by simp [e1, e2]
      have := (List.getElem_inj hn).1 e3
      subst this
      rw [e1] at e2
      exact (Prod.mk.inj e2).2
    subst this
    exact ⟨l2, h3, h4, h5⟩
theorem zero_slice (w : World) : (zeroValue 40).run Tryz.prog w = .ok (.slice none 0 0) w := by kernel_rfl
set_option maxHeartbeats 1000000 in
theorem diskRead (b bl bm : Nat) (C : Nat → Prop) (d : DS) (i : Int) (w : World) (h : IsDisk w b bl bm C d) :
  Calls Tryz.prog 84 #[.pointer (some ⟨b, 0, none⟩), .int .i64 i] w fun e w' => ∃ v, e = .returned (.tuple #[v, .int .i64 (d.read i).2]) ∧ IsVec (fun k => w.heap.size ≤ k) w' 5 1 v (d.read i).1.length (bys (d.read i).1) ∧ Mod nil w w' := by
 by_cases hs : d.sector i = 0
 ·have hsec := DS.sector_ok hs
  have c0 : w.cell? ⟨b, 0, none⟩ = some (.slice (some ⟨bl, 0, none⟩) d.lasts.length d.lasts.length) := cell_of h.obj 0
  have c1 : w.cell? ⟨b, 1, none⟩ = some (.map (some bm)) := cell_of h.obj 1
  have HS := Lib.hid hs
  obtain ⟨vm, hm, hrel⟩ := h.pend
  rcases hrel.find hm.nodup i with ⟨hk, hfind⟩ | ⟨v, l, hkv, hkl, hfind, hrow, hl⟩
  ·have hr : d.read i = (d.lasts.getD i.toNat [], 0) := by simp [DS.read, hs, hfind]
   rw [hr]
   obtain ⟨j, rfl⟩ := Int.eq_ofNat_of_zero_le hsec.2.1
   have hjl : j < d.lasts.length := by omega
   obtain ⟨vl, hl1, hl2, hl3⟩ := h.lasts
   obtain ⟨hrow, h64⟩ := hl3 j (by omega) hjl
   rw [Int.toNat_natCast]
   have hget : d.lasts.getD j [] = d.lasts[j] := by simp [hjl]
   rw [hget]
   obtain ⟨l, hle⟩ : ∃ l, d.lasts[j] = l := ⟨_, rfl⟩
   rw [hle] at hrow h64 ⊢
   have hcell : w.cell? ⟨bl, j, none⟩ = some vl[j] := by rw [cell_of hl1]; simp
   obtain ⟨v, hv⟩ : ∃ v, vl[j] = v := ⟨_, rfl⟩
   rw [hv] at hrow hcell
   have hlook := run_lookup_none (P := Tryz.prog) Tryz.underlying86 Tryz.underlying3 (zero_slice w) hm hk
   have hroom := h.room
   clear hr hs hget hle hv hl1 hl2 hl3 hfind hk hm hrel
   go_enter Tryz.func84, Tryz.ntmps84
   go_wp2_with fail
   refine (diskSector _ _ _ _ _ _ _ h).mono ?_
   rw [HS.out]
   rintro e w' ⟨rfl, rfl⟩
   go_wp2_with fail
   refine (cloneBytes C _ l _ hrow (by omega)).mono ?_
   rintro e w2 ⟨v2, rfl, hv2, hm2⟩
   go_wp2_with fail
   go_ret2
   exact ⟨v2, rfl, hv2, hm2⟩
  ·have hr : d.read i = (l, 0) := by simp [DS.read, hs, hfind]
   rw [hr]
   have hlook := run_lookup_some (P := Tryz.prog) Tryz.underlying86 Tryz.underlying3 hm hkv
   clear hr hs hfind hkv hkl hm hrel
   go_enter Tryz.func84, Tryz.ntmps84
   go_wp2_with fail
   refine (diskSector _ _ _ _ _ _ _ h).mono ?_
   rw [HS.out]
   rintro e w' ⟨rfl, rfl⟩
   go_wp2_with fail
   refine (cloneBytes C _ l _ hrow (by omega)).mono ?_
   rintro e w2 ⟨v2, rfl, hv2, hm2⟩
   go_wp2_with fail
   go_ret2
   exact ⟨v2, rfl, hv2, hm2⟩
 ·have hr : d.read i = ([], d.sector i) := by simp [DS.read, hs]
  rw [hr]
  have hb : (d.sector i != 0) = true := by rw [bne_iff_ne]; exact hs
  clear hr hs
  go_enter Tryz.func84, Tryz.ntmps84
  go_wp2_with fail
  refine (diskSector _ _ _ _ _ _ _ h).mono ?_
  rintro e w' ⟨rfl, rfl⟩
  go_wp2_with fail
  go_ret2
  exact ⟨_, rfl, IsVec.nil _ _ _ _, Mod.refl _ _⟩
end Go.Proofs.YtdfahddpkkeldaaGreat

/- The walks over package disk, the second part: New, Sync, Crash. -/
namespace Go.Proofs.YtdfahddpkkeldaaGreat
open Go.RowKit
def zeros64 : List UInt8 := List.replicate 64 0
def zeroCells64 : Array Value := (bys zeros64).toArray
theorem make64 (w : World) : (Instr.makeSlice 40 (.int .i64 64) (.int .i64 64)).run Tryz.prog w = .ok (.slice (some ⟨w.heap.size, 0, none⟩) 64 64) (w.alloc (.cells zeroCells64 5)) := by kernel_rfl
theorem info_bytes : (Tryz.prog.info? 40).map (fun i => (i.zero, i.size, i.bytes)) = some (some (.slice none 0 0), 1, 24) := by kernel_rfl
def freshDisk (n : Nat) : DS := ⟨List.replicate n zeros64, [], -1, false⟩
set_option maxHeartbeats 1000000 in
theorem diskNew (n : Nat) (w : World) (h1 : 1 ≤ n) (h2 : n ≤ 8192) :
  Calls Tryz.prog 7 #[.int .i64 n] w fun e w' => ∃ b bl bm C, e = .returned (.tuple #[.pointer (some ⟨b, 0, none⟩), .int .i64 0]) ∧ IsDisk w' b bl bm C (freshDisk n) ∧ (∀ k, foot b bl bm C k → w.heap.size ≤ k) ∧ Mod nil w w' := by
 obtain ⟨i0, hi, hz0, hz1, hz2⟩ := info_parts info_bytes
 have hmk := run_make_one (P := Tryz.prog) 85 40 i0 (.slice none 0 0) 24 Tryz.underlying85 hi hz0 hz1 hz2 rfl n (by omega) (by unfold maxLen; omega)
 have hmm := @run_makeMap Tryz.prog
 clear hi hz0 hz1 hz2
 go_enter Tryz.func7, Tryz.ntmps7
 go_wp2_with fail
 clear hmk hmm
 have hm0 : Mod nil w (((w.alloc (.cells (Array.replicate n (.slice none 0 0)) 40)).alloc (.map #[] 0)).alloc (.cells #[.slice (some ⟨w.heap.size, 0, none⟩) n n, .map (some (w.heap.size + 1)), .int .i64 (-1), .int .u32 0] 88)) := (((Mod.refl nil w).alloc _).alloc _).alloc _
 have hl0 : (((w.alloc (.cells (Array.replicate n (.slice none 0 0)) 40)).alloc (.map #[] 0)).alloc (.cells #[.slice (some ⟨w.heap.size, 0, none⟩) n n, .map (some (w.heap.size + 1)), .int .i64 (-1), .int .u32 0] 88)).heap[w.heap.size]? = some (.cells (List.replicate n (Value.slice none 0 0)).toArray 40 (0, 0)) :=
  heap_alloc_old (heap_alloc_old (by rw [heap_alloc_new]; simp))
 have hp0 : IMap (((w.alloc (.cells (Array.replicate n (.slice none 0 0)) 40)).alloc (.map #[] 0)).alloc (.cells #[.slice (some ⟨w.heap.size, 0, none⟩) n n, .map (some (w.heap.size + 1)), .int .i64 (-1), .int .u32 0] 88)) (w.heap.size + 1) [] := by
  have h := IMap.new (w.alloc (.cells (Array.replicate n (Value.slice none 0 0)) 40))
  rw [show (w.alloc (.cells (Array.replicate n (Value.slice none 0 0)) 40)).heap.size = w.heap.size + 1 from by simp] at h
  exact h.mod ((Mod.refl nil _).alloc _) (not_nil _)
 have ho0 : (((w.alloc (.cells (Array.replicate n (.slice none 0 0)) 40)).alloc (.map #[] 0)).alloc (.cells #[.slice (some ⟨w.heap.size, 0, none⟩) n n, .map (some (w.heap.size + 1)), .int .i64 (-1), .int .u32 0] 88)).heap[w.heap.size + 1 + 1]? = some (.cells #[.slice (some ⟨w.heap.size, 0, none⟩) n n, .map (some (w.heap.size + 1)), .int .i64 (-1), .int .u32 0] 88 (0, 0)) := by
  have h := heap_alloc_new ((w.alloc (.cells (Array.replicate n (Value.slice none 0 0)) 40)).alloc (.map #[] 0)) (.cells #[.slice (some ⟨w.heap.size, 0, none⟩) n n, .map (some (w.heap.size + 1)), .int .i64 (-1), .int .u32 0] 88)
  simpa using h
 have HM0 := Lib.hid hm0
 have HL0 := Lib.hid hl0
 have HP0 := Lib.hid hp0
 have HO0 := Lib.hid ho0
 clear hm0 hl0 hp0 ho0
 generalize ((w.alloc (.cells (Array.replicate n (Value.slice none 0 0)) 40)).alloc (.map #[] 0)).alloc (.cells #[.slice (some ⟨w.heap.size, 0, none⟩) n n, .map (some (w.heap.size + 1)), .int .i64 (-1), .int .u32 0] 88) = w3 at HM0 HL0 HP0 HO0 ⊢
 generalize hbl : w.heap.size = bl at HL0 HP0 HO0 ⊢
 have HBL := Lib.hid hbl
 clear hbl
 go_loopw [5, 22] (fun _ v wr => ∃ k : Nat, k ≤ n ∧ v = .int .i64 k ∧ wr.heap[bl + 1 + 1]? = some (.cells #[.slice (some ⟨bl, 0, none⟩) n n, .map (some (bl + 1)), .int .i64 (-1), .int .u32 0] 88 (0, 0)) ∧ IMap wr (bl + 1) [] ∧
   (∃ vl : List Value, wr.heap[bl]? = some (.cells vl.toArray 40 (0, 0)) ∧ vl.length = n ∧ ∀ i (h : i < vl.length), i < k → IsRow (fun x => bl + 1 + 1 < x) wr vl[i] (bys zeros64)) ∧ Mod nil w wr) (fun _ v _ => n - (intOf v).toNat)
 case atStart => exact ⟨0, by omega, rfl, HO0.out, HP0.out, ⟨_, HL0.out, by simp, fun i h hi => absurd hi (by omega)⟩, HM0.out⟩
 case round =>
  obtain ⟨k, hk, rfl, ho, hp, ⟨vl, hl, hvl, hrows⟩, hmod⟩ := hrel
  have HO := Lib.hid ho
  have HP := Lib.hid hp
  have HL := Lib.hid hl
  have HVL := Lib.hid hvl
  have HROWS := Lib.hid hrows
  by_cases hlt : k < n
  ·have hlto := heap_lt ho
   have hltl := heap_lt hl
   have c0 : wr.cell? ⟨bl + 1 + 1, 0, none⟩ = some (.slice (some ⟨bl, 0, none⟩) n n) := cell_of ho 0
   have ck : wr.cell? ⟨bl, k, none⟩ = some (vl.getD k undef) := by rw [cell_of hl]; simp [show k < vl.length by omega]
   have fk : wr.frozen? ⟨bl, k, none⟩ = false := free_of hl k
   have hmk := make64
   have ha : Mod nil wr (wr.alloc (.cells zeroCells64 5)) := (Mod.refl nil wr).alloc _
   have ca0 := cell_kept c0 ha hlto (not_nil _)
   have cak := cell_kept ck ha hltl (not_nil _)
   have fak : (wr.alloc (.cells zeroCells64 5)).frozen? ⟨bl, k, none⟩ = false := free_of (heap_alloc_old hl) k
   have ms : ∀ v, Mod (· = bl) wr (wr.setCell ⟨bl, k, none⟩ v) := fun v => (Mod.refl _ _).setCell _ _ (fun _ => rfl)
   have cs0 : ∀ v, ((wr.setCell ⟨bl, k, none⟩ v).alloc (.cells zeroCells64 5)).cell? ⟨bl + 1 + 1, 0, none⟩ = some (.slice (some ⟨bl, 0, none⟩) n n) := fun v =>
    cell_kept c0 ((ms v).alloc _) hlto (show bl + 1 + 1 ≠ bl by omega)
   clear ho hp hl hvl hrows
   go_wp2_with fail
   go_region_held3 (fun w' => w'.cell? ⟨bl + 1 + 1, 0, none⟩ = some (.slice (some ⟨bl, 0, none⟩) n n)) (first | exact c0 | exact ca0 | exact cs0 _) (first | fail)
   go_wp2_with fail
   have hv2 := HVL.out
   have m1 : Mod (· = bl) wr ((wr.setCell ⟨bl, k, none⟩ (.slice (some ⟨wr.heap.size, 0, none⟩) 64 64)).alloc (.cells zeroCells64 5)).drew := ((ms _).alloc _).drew
   have hbl := HBL.out
   refine ⟨⟨k + 1, by omega, by go_num, (m1.ne _ (heap_lt HO.out) (by omega)).trans HO.out, HP.out.mod m1 (show bl + 1 ≠ bl by omega), ⟨vl.set k (.slice (some ⟨wr.heap.size, 0, none⟩) 64 64), ?_, by simp [hv2], ?_⟩, hmod.new m1 (by omega)⟩, by simp [intOf]; omega⟩
   ·have h := heap_alloc_old (o := .cells zeroCells64 5) (heap_setCell_same HL.out (off := k) (.slice (some ⟨wr.heap.size, 0, none⟩) 64 64))
    simp only [List.setIfInBounds_toArray] at h
    exact h
   ·intro i hi hik
    simp only [List.getElem_set]
    split
    ·have h : ((wr.setCell ⟨bl, k, none⟩ (.slice (some ⟨wr.heap.size, 0, none⟩) 64 64)).alloc (.cells zeroCells64 5)).heap[wr.heap.size]? = some (.cells (bys zeros64).toArray 5 (0, 0)) := by
      have h := heap_alloc_new (wr.setCell ⟨bl, k, none⟩ (.slice (some ⟨wr.heap.size, 0, none⟩) 64 64)) (.cells zeroCells64 5)
      rw [size_setCell] at h
      exact h
     exact (IsRow.ofBlock h (show bl + 1 + 1 < wr.heap.size by omega) 64 64 (by simp [bys_length, zeros64])).mod (Mod.refl nil _).drew (fun _ _ _ f => f)
    ·rename_i hne
     exact (HROWS.out i (by simpa using hi) (by omega)).mod m1 (fun x _ hx e => by omega)
  ·obtain rfl : k = n := by omega
   go_wp2_with fail
   go_ret2
   have hbl := HBL.out
   refine ⟨_, bl, bl + 1, fun x => bl + 1 + 1 < x, rfl, ?_, ?_, hmod⟩
   ·exact { obj := by simpa [freshDisk, b01] using ho, lasts := ⟨vl, hl, by simp [freshDisk, hvl], fun i a a' => ⟨by simpa [freshDisk] using hrows i a (by omega), by simp [freshDisk, zeros64]⟩⟩, pend := ⟨[], hp, by simp [PRel, freshDisk]⟩, keys := by simp [freshDisk], room := by simpa [freshDisk] using h2, fz := by simp [freshDisk], ne1 := by omega, ne2 := by omega, ne3 := by omega, c1 := by omega, c2 := by omega, c3 := by omega }
   ·intro x hx
    rcases hx with h | h | h | h <;> omega
/-- what lasts of a sector while some of what is pending ('left') has not been laid down yet -/
def laid (d : DS) (left : List Int) (i : Nat) : List UInt8 :=
 match d.pend.find? (fun p => p.1 == (i : Int)) with
 | some p => if (i : Int) ∈ left then d.lasts.getD i [] else p.2
 | none => d.lasts.getD i []
theorem laid_start (d : DS) (i : Nat) {left : List Int} (h : ∀ k ∈ d.pend.map (·.1), k ∈ left) : laid d left i = d.lasts.getD i [] := by
 unfold laid
 split
 ·rename_i p hp
  have h1 := List.mem_of_find?_eq_some hp
  have h2 := List.find?_some hp
  simp only [beq_iff_eq] at h2
  rw [if_pos (h _ (List.mem_map.2 ⟨p, h1, h2⟩))]
 ·rfl
theorem laid_other (d : DS) (i : Nat) (k : Int) (left : List (Int × Value)) (h : (i : Int) ≠ k) : laid d ((left.filter (fun p => p.1 ≠ k)).map (·.1)) i = laid d (left.map (·.1)) i := by
 unfold laid
 have : (i : Int) ∈ (left.filter (fun p => p.1 ≠ k)).map (·.1) ↔ (i : Int) ∈ left.map (·.1) := by
  simp only [List.mem_map, List.mem_filter]
  constructor
  ·rintro ⟨p, ⟨h1, _⟩, h3⟩; exact ⟨p, h1, h3⟩
  ·rintro ⟨p, h1, h3⟩; exact ⟨p, ⟨h1, by simp [h3, h]⟩, h3⟩
 simp only [this]
theorem laid_same (d : DS) (k : Nat) (l : List UInt8) (left : List (Int × Value)) (h : d.pend.find? (fun p => p.1 == (k : Int)) = some ((k : Int), l)) : laid d ((left.filter (fun p => p.1 ≠ (k : Int))).map (·.1)) k = l := by
 unfold laid
 rw [h]
 have : ¬ (k : Int) ∈ (left.filter (fun p => p.1 ≠ (k : Int))).map (·.1) := by
  simp only [List.mem_map, List.mem_filter]
  rintro ⟨p, ⟨_, h2⟩, h3⟩
  simp [h3] at h2
 simp only [if_neg this]
theorem DS.burn_fz (d : DS) (h : -1 ≤ d.fuse ∧ d.fuse ≤ 9223372036854775807) : -1 ≤ d.burn.fuse ∧ d.burn.fuse ≤ 9223372036854775807 := by
 unfold DS.burn; split
 ·exact h
 ·split
  ·simp only; omega
  ·exact h
def DS.synced (d : DS) : List (List UInt8) := (List.range d.lasts.length).map (laid d [])
def DS.sync (d : DS) : DS × Int :=
 if d.down then (d, 13) else if d.holds = false then (d.burn, 13) else ({ d.burn with lasts := d.synced, pend := [] }, 0)
set_option maxRecDepth 100000 in
set_option maxHeartbeats 1000000 in
theorem diskSync (b bl bm : Nat) (C : Nat → Prop) (d : DS) (w : World) (h : IsDisk w b bl bm C d) :
    Calls Tryz.prog 96 #[.pointer (some ⟨b, 0, none⟩)] w fun e w' => e = .returned (.int .i64 d.sync.2) ∧ IsDisk w' b bl bm C d.sync.1 ∧ Mod (fun k => k = b ∨ k = bl ∨ k = bm) w w' := by
  have c3 : w.cell? ⟨b, 3, none⟩ = some (.int .u32 (b01 d.down)) := cell_of h.obj 3
  cases hdn : d.down
  · rw [hdn] at c3
    cases hh : d.holds
    · have hr : d.sync = (d.burn, 13) := by simp [DS.sync, hdn, hh]
      rw [hr]
      have HH := Lib.hid hh
      clear hr hdn hh
      go_enter Tryz.func96, Tryz.ntmps96
      go_wp2_with fail
      refine (boolLoad _ _ _ _ c3).mono ?_
      rintro e w' ⟨rfl, rfl⟩
      go_wp2_with fail
      refine (diskBurns _ _ _ _ _ _ h).mono ?_
      rw [HH.out]
      rintro e w2 ⟨rfl, hd2, hm2⟩
      go_wp2_with fail
      go_ret
      exact ⟨rfl, hd2, hm2.mono (fun k _ hk => .inl hk)⟩
    · have hr : d.sync = ({ d.burn with lasts := d.synced, pend := [] }, 0) := by simp [DS.sync, hdn, hh]
      rw [hr]
      have HH := Lib.hid hh
      have hbl := d.burn_lasts
      clear hr hdn hh
      go_enter Tryz.func96, Tryz.ntmps96
      go_wp2_with fail
      refine (boolLoad _ _ _ _ c3).mono ?_
      rintro e w' ⟨rfl, rfl⟩
      go_wp2_with fail
      refine (diskBurns _ _ _ _ _ _ h).mono ?_
      rw [HH.out]
      rintro e w2 ⟨rfl, hd2, hm2⟩
      have c1 : w2.cell? ⟨b, 1, none⟩ = some (.map (some bm)) := cell_of hd2.obj 1
      obtain ⟨vm, hmap, hrel⟩ := hd2.pend
      obtain ⟨w3, hrun, hit, hm3, hsz3⟩ := run_range (P := Tryz.prog) Tryz.underlying86 hmap
      go_wp2_with fail
      clear hrun c3 hsz3
      obtain ⟨vl3, hl21, hl32, hl23⟩ := hd2.lasts
      have hrz : w2.heap.size ≤ w2.heap.size := Nat.le_refl _
      have hrb : b < w2.heap.size := heap_lt hd2.obj
      have hrl : bl < w2.heap.size := heap_lt hl21
      have hrm : bm < w2.heap.size := hmap.lt
      have hwr : w.heap.size ≤ w2.heap.size := hm2.size
      have hrel2 := hrel.mono (D := fun k => C k ∧ k < w2.heap.size) (fun k hk hc => ⟨hc, hk⟩)
      have hrel3 := hrel2.mod hm3 (fun _ _ _ f => f)
      have hrows2 : ∀ i (a : i < vl3.length) (a' : i < d.burn.lasts.length), IsRow (fun k => C k ∧ k < w2.heap.size) w3 vl3[i] (bys d.burn.lasts[i]) ∧ d.burn.lasts[i].length = 64 := fun i a a' =>
        ⟨((hl23 i a a').1.mono (fun k hk hc => ⟨hc, hk⟩)).modNil hm3, (hl23 i a a').2⟩
      have hl31 := hm3.keep hl21
      have hobj3 := hm3.keep hd2.obj
      have hmod3 : Mod (fun k => k = b ∨ k = bl) w w3 := (hm2.mono (fun k _ hk => .inl hk)).thenNil hm3
      have hn := hit.map.nodup
      have HN := Lib.hid hn
      have hroom := h.room
      have hkeys := h.keys
      rw [← hbl.2] at hkeys
      clear hn c1 hmap hrel hrel2 hl23 hl21 hd2
      generalize w2.heap.size = r at hit hrz hrb hrl hrm hwr hrel3 hrows2 ⊢
      have hlen3 : vl3.length = d.lasts.length := by rw [hl32, hbl.1]
      have hrows3 : ∀ i (a : i < vl3.length), IsRow (fun k => C k ∧ k < r) w3 vl3[i] (bys (laid d (vm.map (·.1)) i)) ∧ (laid d (vm.map (·.1)) i).length = 64 := by
        intro i a
        rw [laid_start d i (by rw [hrel3.keys, hbl.2]; exact fun k hk => hk)]
        have a' : i < d.burn.lasts.length := by omega
        have := hrows2 i a a'
        rw [show d.burn.lasts[i] = d.lasts.getD i [] by simp [hbl.1, show i < d.lasts.length by omega]] at this
        exact this
      clear hrows2 hl32
      go_loopw [3] (fun _ wr => ∃ left, IIter wr r bm vm left ∧ wr.heap[b]? = some (.cells #[.slice (some ⟨bl, 0, none⟩) d.lasts.length d.lasts.length, .map (some bm), .int .i64 d.burn.fuse, .int .u32 (b01 d.burn.down)] 88 (0, 0)) ∧
          (∃ vl : List Value, wr.heap[bl]? = some (.cells vl.toArray 40 (0, 0)) ∧ vl.length = d.lasts.length ∧ ∀ i (a : i < vl.length), IsRow (fun k => C k ∧ k < r) wr vl[i] (bys (laid d (left.map (·.1)) i)) ∧ (laid d (left.map (·.1)) i).length = 64) ∧
          PRel (fun k => C k ∧ k < r) wr vm d.burn.pend ∧ Mod (fun k => k = b ∨ k = bl) w wr ∧ (∀ p ∈ left, p ∈ vm)) (fun _ wr => iterLeft wr r bm)
      case atStart =>
        exact ⟨vm, hit, by rw [← hbl.1]; exact hobj3, ⟨vl3, hl31, hlen3, hrows3⟩, hrel3, hmod3, fun p hp => hp⟩
      case round =>
        obtain ⟨left, hit, hobj, ⟨vl, hl, hvl, hrows⟩, hrel, hmod, hsub⟩ := hrel
        have HIT := Lib.hid hit
        have HOBJ := Lib.hid hobj
        have HL := Lib.hid hl
        have HVL := Lib.hid hvl
        have HROWS := Lib.hid hrows
        have HREL := Lib.hid hrel
        have HSUB := Lib.hid hsub
        have hn : (vm.map (·.1)).Nodup := HN.out
        rcases run_next (P := Tryz.prog) 0 hit with ⟨hleft, hrun⟩ | ⟨k, v, w4, hin, hrun, hit4, hm4, hz4, hent⟩
        · subst hleft
          have c1 : wr.cell? ⟨b, 1, none⟩ = some (.map (some bm)) := cell_of hobj 1
          obtain ⟨w5, hcl, hmap5, hm5, hz5⟩ := run_clear (P := Tryz.prog) (r := 0) Tryz.underlying86 hit.map
          have HCL := Lib.hid hcl
          clear hit hobj hl hvl hrows hrel hsub hcl hz5 hrel3 hrows3 hobj3 hl31
          go_wp2_with fail
          rw [HCL.out]
          simp only [Result.andThen_ok]
          go_wp2_with fail
          go_ret
          have hit := HIT.out
          have hobj := HOBJ.out
          have hl := HL.out
          have hrows := HROWS.out
          have hne : b ≠ bm := h.ne2
          have hne' : bl ≠ bm := h.ne3
          have hC5 : ∀ k, k < wr.heap.size → C k → ¬ k = bm := fun k _ hk e => h.c3 (e ▸ hk)
          refine ⟨rfl, ?_, (hmod.mono (fun k _ hk => hk.elim .inl (fun e => .inr (.inl e)))).trans hm5 (fun k _ hk => .inr (.inr hk))⟩
          exact { obj := by simpa [DS.synced] using (hm5.ne b (heap_lt hobj) hne).trans hobj
                  lasts := ⟨vl, (hm5.ne bl (heap_lt hl) hne').trans hl, by simp [DS.synced, HVL.out], fun i a a' => by
                    have := hrows i a
                    have e : d.synced[i]'(by simpa using a') = laid d (([] : List (Int × Value)).map (·.1)) i := by simp [DS.synced]
                    show IsRow C w5 vl[i] (bys (d.synced[i]'(by simpa using a'))) ∧ (d.synced[i]'(by simpa using a')).length = 64
                    rw [e]
                    exact ⟨(this.1.mono (fun k _ hk => hk.1)).mod hm5 hC5, this.2⟩⟩
                  pend := ⟨[], hmap5, by simp [PRel]⟩
                  keys := by simp
                  room := by simpa [DS.synced] using hroom
                  fz := (d.burn_fz h.fz)
                  ne1 := h.ne1, ne2 := h.ne2, ne3 := h.ne3, c1 := h.c1, c2 := h.c2, c3 := h.c3 }
        · have hkv := hsub _ hin
          obtain ⟨l2, hfind, hrow2, h64⟩ := hrel.at hn hkv
          have H64 := Lib.hid h64
          clear h64
          have hrow4 := hrow2.mod hm4 (fun x _ hx e => by omega)
          have hrows4 : ∀ i (a : i < vl.length), IsRow (fun k => C k ∧ k < r) w4 vl[i] (bys (laid d (left.map (·.1)) i)) ∧ (laid d (left.map (·.1)) i).length = 64 := fun i a => ⟨(hrows i a).1.mod hm4 (fun x _ hx e => by omega), (hrows i a).2⟩
          have hrel4 := hrel.mod hm4 (fun x _ hx e => by omega)
          have HROW4 := Lib.hid hrow4
          have HROWS4 := Lib.hid hrows4
          have HREL4 := Lib.hid hrel4
          have HLESS := Lib.hid (filter_less hin)
          have HLEFT := Lib.hid hit.left
          obtain ⟨pv, cv, rfl, _⟩ := hrow2
          rw [bys_length] at *
          obtain ⟨hk0, hk1⟩ : 0 ≤ k ∧ k < d.lasts.length := hkeys _ (List.mem_of_find?_eq_some hfind)
          obtain ⟨k, rfl⟩ := Int.eq_ofNat_of_zero_le hk0
          have hkl : k < d.lasts.length := by omega
          have hobj4 := (hm4.ne b (heap_lt hobj) (by omega)).trans hobj
          have hl4 := (hm4.ne bl (heap_lt hl) (by omega)).trans hl
          have c0 : w4.cell? ⟨b, 0, none⟩ = some (.slice (some ⟨bl, 0, none⟩) d.lasts.length d.lasts.length) := cell_of hobj4 0
          have ck : w4.cell? ⟨bl, k, none⟩ = some (vl.getD k undef) := by rw [cell_of hl4]; simp [show k < vl.length by omega]
          have fk : w4.frozen? ⟨bl, k, none⟩ = false := free_of hl4 k
          have HOBJ4 := Lib.hid hobj4
          have HL4 := Lib.hid hl4
          have HIT4 := Lib.hid hit4
          have HF := Lib.hid hfind
          clear hit hobj hl hvl hrows hrel hsub hz4 hrel3 hrows3 hobj3 hl31 hobj4 hl4 hit4 hfind hin hkv hn hrow4 hrows4 hrel4
          go_wp2_with fail
          have ms : Mod (· = bl) w4 (w4.setCell ⟨bl, k, none⟩ (.slice pv l2.length cv)) := (Mod.refl _ _).setCell _ _ (fun _ => rfl)
          have hCb : ∀ x, x < w4.heap.size → (C x ∧ x < r) → ¬ x = bl := fun x _ hx e => h.c2 (e ▸ hx.1)
          have hit5 := HIT4.out.mod ms (by omega) (Ne.symm h.ne3)
          have hm5 : Mod (fun k => k = b ∨ k = bl) w (w4.setCell ⟨bl, k, none⟩ (.slice pv l2.length cv)) := (hmod.trans (T := fun x => x = r) hm4 (fun x hx e => by omega)).trans ms (fun x _ hx => .inr hx)
          have hvl := HVL.out
          have hsame := laid_same d k l2 left (hbl.2 ▸ HF.out)
          refine ⟨⟨_, hit5, (ms.ne b (heap_lt HOBJ4.out) h.ne1).trans HOBJ4.out, ⟨vl.set k (.slice pv l2.length cv), ?_, by simp [hvl], ?_⟩, HREL4.out.mod ms hCb, hm5, fun q hq => HSUB.out q (List.mem_filter.1 hq).1⟩, ?_⟩
          · rw [heap_setCell_same HL4.out]; simp
          · intro i hi
            simp only [List.getElem_set]
            split
            · rename_i e
              subst e
              rw [hsame]
              exact ⟨HROW4.out.mod ms hCb, H64.out⟩
            · rename_i e
              rw [laid_other d i k left (by omega)]
              have := HROWS4.out i (by simpa using hi)
              exact ⟨this.1.mod ms hCb, this.2⟩
          · rw [hit5.left, HLEFT.out]; exact HLESS.out
  · rw [hdn] at c3
    have hr : d.sync = (d, 13) := by simp [DS.sync, hdn]
    rw [hr]
    clear hr hdn
    go_enter Tryz.func96, Tryz.ntmps96
    go_wp2_with fail
    refine (boolLoad _ _ _ _ c3).mono ?_
    rintro e w' ⟨rfl, rfl⟩
    go_wp2_with fail
    go_ret
    exact ⟨rfl, h, Mod.refl _ _⟩
end Go.Proofs.YtdfahddpkkeldaaGreat

/- What is read of a disk's sectors; plain. -/
namespace Go.Proofs.YtdfahddpkkeldaaGreat
open Go.RowKit
/-- what is read of sector i -/
def DS.cur (d : DS) (i : Nat) : List UInt8 := match d.pend.find? (fun p => p.1 == (i : Int)) with | some p => p.2 | none => d.lasts.getD i []
def DS.curs (d : DS) : List (List UInt8) := (List.range d.lasts.length).map d.cur
theorem curs_length (d : DS) : d.curs.length = d.lasts.length := by simp [DS.curs]
theorem synced_curs (d : DS) : d.synced = d.curs := by
 unfold DS.synced DS.curs
 apply List.map_congr_left
 intro i _
 unfold laid DS.cur
 cases d.pend.find? (fun p => p.1 == (i : Int)) <;> simp
theorem curs_none (l : List (List UInt8)) (f : Int) (b : Bool) : DS.curs ⟨l, [], f, b⟩ = l := by
 apply List.ext_getElem
 ·simp [DS.curs]
 ·intro i h1 h2
  simp [DS.curs, DS.cur, h2]
theorem read_cur (d : DS) (i : Int) : d.read i = if d.sector i ≠ 0 then ([], d.sector i) else (d.curs.getD i.toNat [], 0) := by
 unfold DS.read
 by_cases h : d.sector i ≠ 0
 ·rw [if_pos h, if_pos h]
 ·rw [if_neg h, if_neg h]
  have h2 := DS.sector_ok (by simpa using h : d.sector i = 0)
  obtain ⟨n, rfl⟩ := Int.eq_ofNat_of_zero_le h2.2.1
  have hn : n < d.lasts.length := by omega
  simp only [DS.curs, Int.toNat_natCast]
  rw [show ((List.range d.lasts.length).map d.cur).getD n [] = d.cur n by simp [hn]]
  unfold DS.cur
  cases d.pend.find? (fun p => p.1 == (n : Int)) <;> rfl
theorem find_bput (m : List (Int × List UInt8)) (k j : Int) (l : List UInt8) : (bput m k l).find? (fun p => p.1 == j) = if j = k then some (k, l) else m.find? (fun p => p.1 == j) := by
 unfold bput
 split
 ·rename_i hk
  induction m with
  | nil => simp at hk
  | cons a m ih =>
   rw [List.map_cons, List.find?_cons, List.find?_cons]
   by_cases ha : a.1 = k
   ·rw [if_pos ha]
    by_cases hj : j = k
    ·subst hj; simp
    ·rw [if_neg hj]
     have h1 : ((k, l).1 == j) = false := by simp; omega
     have h2 : (a.1 == j) = false := by simp; omega
     rw [h1, h2]
     simp only
     by_cases hkm : k ∈ m.map (·.1)
     ·have := ih hkm
      rw [if_neg hj] at this
      exact this
     ·have : ∀ x ∈ m, ¬ x.1 = k := fun x hx e => hkm (List.mem_map.2 ⟨x, hx, e⟩)
      rw [show m.map (fun p => if p.1 = k then (k, l) else p) = m from by
       rw [List.map_congr_left (g := id) (fun x hx => by rw [if_neg (this x hx)]; rfl)]; simp]
   ·rw [if_neg ha]
    have hkm : k ∈ m.map (·.1) := by
     rcases List.mem_cons.1 hk with h | h
     ·exact absurd h.symm ha
     ·exact h
    by_cases haj : a.1 = j
    ·have h1 : (a.1 == j) = true := by simp [haj]
     rw [h1, if_neg (by omega)]
    ·have h1 : (a.1 == j) = false := by simp [haj]
     rw [h1]
     exact ih hkm
 ·rename_i hk
  rw [List.find?_append]
  by_cases hj : j = k
  ·subst hj
   rw [if_pos rfl, List.find?_eq_none.2 (fun x hx => by simp; exact fun e => hk (List.mem_map.2 ⟨x, hx, e⟩))]
   simp
  ·rw [if_neg hj]
   have : [(k, l)].find? (fun p => p.1 == j) = none := by simp; omega
   rw [this]
   simp
theorem curs_bput (d : DS) (k : Nat) (l : List UInt8) : DS.curs { d with pend := bput d.pend k l } = d.curs.set k l := by
 apply List.ext_getElem
 ·simp [DS.curs]
 ·intro i h1 h2
  simp only [DS.curs, List.getElem_map, List.getElem_range, List.getElem_set]
  simp only [DS.cur, find_bput]
  by_cases h : k = i
  ·subst h; simp
  ·rw [if_neg h, if_neg (by omega)]
end Go.Proofs.YtdfahddpkkeldaaGreat

/- The walks over package disk: what each call does to a disk said plainly (DS). -/
import Derived.Test.YtjilbnpehgigjaaGreatRdB
import Derived.Test.YtjilbnpehgigjaaGreatMap
namespace Go.Proofs.YtjilbnpehgigjaaGreat
open Go.RowKit

/-- a disk, said plainly -/
structure DS where
  lasts : List (List UInt8)
  pend : List (Int × List UInt8)
  fuse : Int
  down : Bool
def bput (m : List (Int × List UInt8)) (k : Int) (v : List UInt8) : List (Int × List UInt8) :=
  if k ∈ m.map (·.1) then m.map (fun p => if p.1 = k then (k, v) else p) else m ++ [(k, v)]
def b01 (b : Bool) : Int := if b then 1 else 0
/-- pairs of a map whose values read as bytes -/
def PRel (C : Nat → Prop) (w : World) (vm : List (Int × Value)) (pend : List (Int × List UInt8)) : Prop :=
  vm.length = pend.length ∧ ∀ i (h : i < vm.length) (h' : i < pend.length), vm[i].1 = pend[i].1 ∧ IsRow C w vm[i].2 (bys pend[i].2) ∧ pend[i].2.length = 64
/-- the object: block b; its list of sectors: bl; its map: bm; the sectors' bytes lie in blocks of C -/
structure IsDisk (w : World) (b bl bm : Nat) (C : Nat → Prop) (d : DS) : Prop where
  obj : w.heap[b]? = some (.cells #[.slice (some ⟨bl, 0, none⟩) d.lasts.length d.lasts.length, .map (some bm), .int .i64 d.fuse, .int .u32 (b01 d.down)] 82 (0, 0))
  lasts : ∃ vl : List Value, w.heap[bl]? = some (.cells vl.toArray 22 (0, 0)) ∧ vl.length = d.lasts.length ∧ ∀ i (h : i < vl.length) (h' : i < d.lasts.length), IsRow C w vl[i] (bys d.lasts[i]) ∧ d.lasts[i].length = 64
  pend : ∃ vm, IMap w bm vm ∧ PRel C w vm d.pend
  keys : ∀ p ∈ d.pend, 0 ≤ p.1 ∧ p.1 < d.lasts.length
  room : d.lasts.length ≤ 8192
  fz : -1 ≤ d.fuse ∧ d.fuse ≤ 9223372036854775807
  ne1 : b ≠ bl
  ne2 : b ≠ bm
  ne3 : bl ≠ bm
  c1 : ¬ C b
  c2 : ¬ C bl
  c3 : ¬ C bm
/-- all that a disk's blocks are -/
def foot (b bl bm : Nat) (C : Nat → Prop) : Nat → Prop := fun k => k = b ∨ k = bl ∨ k = bm ∨ C k

theorem PRel.mod {C T : Nat → Prop} {w w' : World} {vm : List (Int × Value)} {pend : List (Int × List UInt8)} (h : PRel C w vm pend) (m : Mod T w w') (hs : ∀ k, k < w.heap.size → C k → ¬ T k) : PRel C w' vm pend :=
  ⟨h.1, fun i h1 h2 => ⟨(h.2 i h1 h2).1, (h.2 i h1 h2).2.1.mod m hs, (h.2 i h1 h2).2.2⟩⟩
theorem PRel.mono {C D : Nat → Prop} {w : World} {vm : List (Int × Value)} {pend : List (Int × List UInt8)} (h : PRel C w vm pend) (hs : ∀ k, k < w.heap.size → C k → D k) : PRel D w vm pend :=
  ⟨h.1, fun i h1 h2 => ⟨(h.2 i h1 h2).1, (h.2 i h1 h2).2.1.mono hs, (h.2 i h1 h2).2.2⟩⟩
theorem IsDisk.mod {C T : Nat → Prop} {w w' : World} {b bl bm : Nat} {d : DS} (h : IsDisk w b bl bm C d) (m : Mod T w w') (hs : ∀ k, k < w.heap.size → foot b bl bm C k → ¬ T k) : IsDisk w' b bl bm C d := by
  obtain ⟨vl, h1, h2, h3⟩ := h.lasts
  obtain ⟨vm, h4, h5⟩ := h.pend
  exact { h with
    obj := (m.block b (heap_lt h.obj) (hs b (heap_lt h.obj) (.inl rfl))).trans h.obj
    lasts := ⟨vl, (m.block bl (heap_lt h1) (hs bl (heap_lt h1) (.inr (.inl rfl)))).trans h1, h2, fun i a a' => ⟨(h3 i a a').1.mod m (fun k hk hc => hs k hk (.inr (.inr (.inr hc)))), (h3 i a a').2⟩⟩
    pend := ⟨vm, h4.mod m (hs bm h4.lt (.inr (.inr (.inl rfl)))), h5.mod m (fun k hk hc => hs k hk (.inr (.inr (.inr hc))))⟩ }
theorem IsDisk.modNil {C : Nat → Prop} {w w' : World} {b bl bm : Nat} {d : DS} (h : IsDisk w b bl bm C d) (m : Mod nil w w') : IsDisk w' b bl bm C d := h.mod m (fun _ _ _ f => f)

def DS.sector (d : DS) (i : Int) : Int := if d.down then 13 else if i < 0 ∨ (d.lasts.length : Int) ≤ i then 1 else 0
def DS.burn (d : DS) : DS := if d.fuse = 0 then { d with down := true } else if 0 < d.fuse then { d with fuse := d.fuse - 1 } else d
def DS.holds (d : DS) : Bool := !(d.fuse == 0)

theorem boolLoad (b o : Nat) (x : Bool) (w : World) (hc : w.cell? ⟨b, o, none⟩ = some (.int .u32 (b01 x))) :
    Calls Tryz.prog 53 #[.pointer (some ⟨b, o, none⟩)] w fun e w' => e = .returned (.bool x) ∧ w = w' := by
  cases x
  all_goals
    have hl := run_call_load (P := Tryz.prog) Tryz.func73 (by kernel_rfl) (by kernel_rfl) (by kernel_rfl) .u32 (by kernel_rfl) hc
    simp only [b01] at hl
    go_enter Tryz.func53, Tryz.ntmps53
    go_wp2
    go_ret
    exact ⟨by simp, rfl⟩
theorem atomicB32 (x : Bool) (w : World) : Calls Tryz.prog 67 #[.bool x] w fun e w' => e = .returned (.int .u32 (b01 x)) ∧ w' = w := by
  cases x
  all_goals
    go_enter Tryz.func67, Tryz.ntmps67
    go_wp2
    go_ret
    exact ⟨rfl, rfl⟩
theorem boolStore (b o : Nat) (x : Bool) (u : Value) (w : World) (hc : w.cell? ⟨b, o, none⟩ = some u) (hz : w.frozen? ⟨b, o, none⟩ = false) :
    Calls Tryz.prog 39 #[.pointer (some ⟨b, o, none⟩), .bool x] w fun e w' => e = .returned (.tuple #[]) ∧ w' = (w.setCell ⟨b, o, none⟩ (.int .u32 (b01 x))).drew := by
  have hs := run_call_store (P := Tryz.prog) (w := w.drew) Tryz.func66 (by kernel_rfl) (by kernel_rfl) (by kernel_rfl) (by kernel_rfl) (k := .u32) (y := b01 x) hc hz
  go_enter Tryz.func39, Tryz.ntmps39
  go_wp2_with fail
  go_region_held3 (fun _ => True) (trivial) (first | (go_at_call 67; refine (atomicB32 _ _).mono ?_; rintro e w' ⟨rfl, rfl⟩))
  go_end0
  exact ⟨rfl, rfl⟩
theorem diskLen (b bl bm : Nat) (C : Nat → Prop) (d : DS) (w : World) (h : IsDisk w b bl bm C d) :
    Calls Tryz.prog 72 #[.pointer (some ⟨b, 0, none⟩)] w fun e w' => e = .returned (.int .i64 d.lasts.length) ∧ w = w' := by
  have c0 : w.cell? ⟨b, 0, none⟩ = _ := cell_of h.obj 0
  simp at c0
  go_enter Tryz.func72, Tryz.ntmps72
  go_wp2
  go_ret
  exact ⟨rfl, rfl⟩
theorem diskDown (b bl bm : Nat) (C : Nat → Prop) (d : DS) (w : World) (h : IsDisk w b bl bm C d) :
    Calls Tryz.prog 27 #[.pointer (some ⟨b, 0, none⟩)] w fun e w' => e = .returned (.bool d.down) ∧ w = w' := by
  have c3 : w.cell? ⟨b, 3, none⟩ = some (.int .u32 (b01 d.down)) := cell_of h.obj 3
  go_enter Tryz.func27, Tryz.ntmps27
  go_wp2_with (go_at_call 53; refine (boolLoad _ _ _ _ c3).mono ?_; rintro e w' ⟨rfl, rfl⟩)
  go_ret
  exact ⟨rfl, rfl⟩
theorem diskSector (b bl bm : Nat) (C : Nat → Prop) (d : DS) (i : Int) (w : World) (h : IsDisk w b bl bm C d) :
    Calls Tryz.prog 48 #[.pointer (some ⟨b, 0, none⟩), .int .i64 i] w fun e w' => e = .returned (.int .i64 (d.sector i)) ∧ w = w' := by
  have c0 : w.cell? ⟨b, 0, none⟩ = _ := cell_of h.obj 0
  simp at c0
  have c3 : w.cell? ⟨b, 3, none⟩ = some (.int .u32 (b01 d.down)) := cell_of h.obj 3
  have hroom := h.room
  unfold DS.sector
  clear h
  obtain ⟨lasts, pend, fuse, down⟩ := d
  simp only at *
  generalize lasts.length = n at *
  cases down
  · have hcase : (i < 0) ∨ (0 ≤ i ∧ (n : Int) ≤ i) ∨ (0 ≤ i ∧ i < n) := by omega
    rcases hcase with h1 | ⟨h1, h2⟩ | ⟨h1, h2⟩
    all_goals
      go_enter Tryz.func48, Tryz.ntmps48
      go_wp2_with (go_at_call 53; refine (boolLoad _ _ _ _ c3).mono ?_; rintro e w' ⟨rfl, rfl⟩)
      go_ret
      exact ⟨by simp; try omega, rfl⟩
  · go_enter Tryz.func48, Tryz.ntmps48
    go_wp2_with (go_at_call 53; refine (boolLoad _ _ _ _ c3).mono ?_; rintro e w' ⟨rfl, rfl⟩)
    go_ret
    exact ⟨by simp, rfl⟩
/-- the object's cells alone turn -/
theorem IsDisk.set {w w' : World} {b bl bm : Nat} {C : Nat → Prop} {d : DS} (h : IsDisk w b bl bm C d) (fuse : Int) (down : Bool) (hz : -1 ≤ fuse ∧ fuse ≤ 9223372036854775807) (m : Mod (· = b) w w')
    (hb : w'.heap[b]? = some (.cells #[.slice (some ⟨bl, 0, none⟩) d.lasts.length d.lasts.length, .map (some bm), .int .i64 fuse, .int .u32 (b01 down)] 82 (0, 0))) :
    IsDisk w' b bl bm C { d with fuse := fuse, down := down } := by
  obtain ⟨vl, h1, h2, h3⟩ := h.lasts
  obtain ⟨vm, h4, h5⟩ := h.pend
  have hC : ∀ k, k < w.heap.size → C k → ¬ (k = b) := fun k _ hc e => h.c1 (e ▸ hc)
  exact { h with
    obj := hb
    fz := hz
    lasts := ⟨vl, (m.ne bl (heap_lt h1) (Ne.symm h.ne1)).trans h1, h2, fun i a a' => ⟨(h3 i a a').1.mod m hC, (h3 i a a').2⟩⟩
    pend := ⟨vm, h4.mod m (fun e => h.ne2 e.symm), h5.mod m hC⟩ }
theorem diskFuse (b bl bm : Nat) (C : Nat → Prop) (d : DS) (n : Int) (w : World) (h : IsDisk w b bl bm C d) (hn : n ≤ 9223372036854775807) :
    Calls Tryz.prog 11 #[.pointer (some ⟨b, 0, none⟩), .int .i64 n] w fun e w' => e = .returned (.tuple #[]) ∧ IsDisk w' b bl bm C { d with fuse := max n (-1) } ∧ Mod (· = b) w w' := by
  have c2 : w.cell? ⟨b, 2, none⟩ = some (.int .i64 d.fuse) := cell_of h.obj 2
  have f2 : w.frozen? ⟨b, 2, none⟩ = false := free_of h.obj 2
  have hc : max n (-1) = n ∨ max n (-1) = -1 := by omega
  have fin : ∀ x, max n (-1) = x → IsDisk (w.setCell ⟨b, 2, none⟩ (.int .i64 x)) b bl bm C { d with fuse := max n (-1) } ∧ Mod (· = b) w (w.setCell ⟨b, 2, none⟩ (.int .i64 x)) := by
    intro x hx
    have hm : Mod (· = b) w (w.setCell ⟨b, 2, none⟩ (.int .i64 x)) := (Mod.refl _ _).setCell _ _ (fun _ => rfl)
    exact ⟨h.set _ d.down (by omega) hm (by rw [heap_setCell_same h.obj, hx]; rfl), hm⟩
  have HF := Lib.hid fin
  clear fin h hc
  rcases Int.lt_or_le n (-1) with h1 | h1
  all_goals
    go_enter Tryz.func11, Tryz.ntmps11
    go_wp2
    go_end0
    exact ⟨rfl, HF.out _ (by omega)⟩
theorem diskBurns (b bl bm : Nat) (C : Nat → Prop) (d : DS) (w : World) (h : IsDisk w b bl bm C d) :
    Calls Tryz.prog 49 #[.pointer (some ⟨b, 0, none⟩)] w fun e w' => e = .returned (.bool d.holds) ∧ IsDisk w' b bl bm C d.burn ∧ Mod (· = b) w w' := by
  have c2 : w.cell? ⟨b, 2, none⟩ = some (.int .i64 d.fuse) := cell_of h.obj 2
  have f2 : w.frozen? ⟨b, 2, none⟩ = false := free_of h.obj 2
  have c3 : w.cell? ⟨b, 3, none⟩ = some (.int .u32 (b01 d.down)) := cell_of h.obj 3
  have f3 : w.frozen? ⟨b, 3, none⟩ = false := free_of h.obj 3
  have hf1 := h.fz.1
  have hf2 := h.fz.2
  have hcase : d.fuse = 0 ∨ (d.fuse ≠ 0 ∧ 0 < d.fuse) ∨ (d.fuse ≠ 0 ∧ d.fuse < 0) := by omega
  rcases hcase with h1 | ⟨h1, h2⟩ | ⟨h1, h2⟩
  · have hm : Mod (· = b) w (w.setCell ⟨b, 3, none⟩ (.int .u32 (b01 true))).drew := ((Mod.refl (· = b) w).setCell _ _ (fun _ => rfl)).drew
    have hd : IsDisk (w.setCell ⟨b, 3, none⟩ (.int .u32 (b01 true))).drew b bl bm C d.burn := by
      unfold DS.burn; rw [if_pos h1]
      exact h.set d.fuse true h.fz hm (by show (w.setCell ⟨b, 3, none⟩ (.int .u32 (b01 true))).heap[b]? = _; rw [heap_setCell_same h.obj]; rfl)
    have hr : d.holds = false := by simp [DS.holds, h1]
    have HD := Lib.hid hd
    have HR := Lib.hid hr
    have h0 : (d.fuse == 0) = true := by simp [h1]
    clear hd hr h h1
    go_enter Tryz.func49, Tryz.ntmps49
    go_wp2_with (go_at_call 39; refine (boolStore _ _ _ _ _ c3 f3).mono ?_; rintro e w' ⟨rfl, rfl⟩)
    go_ret
    exact ⟨by rw [HR.out]; rfl, HD.out, hm⟩
  · have hm : Mod (· = b) w (w.setCell ⟨b, 2, none⟩ (.int .i64 (d.fuse - 1))) := (Mod.refl (· = b) w).setCell _ _ (fun _ => rfl)
    have hd : IsDisk (w.setCell ⟨b, 2, none⟩ (.int .i64 (d.fuse - 1))) b bl bm C d.burn := by
      unfold DS.burn; rw [if_neg h1, if_pos h2]
      exact h.set (d.fuse - 1) d.down (by omega) hm (by rw [heap_setCell_same h.obj]; rfl)
    have hr : d.holds = true := by simp [DS.holds, h1]
    have HD := Lib.hid hd
    have HR := Lib.hid hr
    have h0 : (d.fuse == 0) = false := by simp [h1]
    clear hd hr h
    go_enter Tryz.func49, Tryz.ntmps49
    go_wp2_with fail
    go_ret
    exact ⟨by rw [HR.out]; rfl, HD.out, hm⟩
  · have hd : IsDisk w b bl bm C d.burn := by
      unfold DS.burn; rw [if_neg h1, if_neg (by omega)]; exact h
    have hr : d.holds = true := by simp [DS.holds, h1]
    have HD := Lib.hid hd
    have HR := Lib.hid hr
    have h0 : (d.fuse == 0) = false := by simp [h1]
    clear hd hr h
    go_enter Tryz.func49, Tryz.ntmps49
    go_wp2_with fail
    go_ret
    exact ⟨by rw [HR.out]; rfl, HD.out, Mod.refl _ _⟩

theorem PRel.put {C C' : Nat → Prop} {w w' : World} {vm : List (Int × Value)} {pend : List (Int × List UInt8)} (h : PRel C w vm pend) (hc : ∀ i (h : i < vm.length) (h' : i < pend.length), IsRow C' w' vm[i].2 (bys pend[i].2)) (k : Int) (v : Value) (l : List UInt8) (hv : IsRow C' w' v (bys l)) (hl : l.length = 64) :
    PRel C' w' (iput vm k v) (bput pend k l) := by
  obtain ⟨hlen, hall⟩ := h
  have hkeys : vm.map (·.1) = pend.map (·.1) := by
    apply List.ext_getElem (by simp [hlen])
    intro i h1 h2
    simp at h1 h2
    simp [(hall i h1 h2).1]
  unfold iput bput
  rw [hkeys]
  split
  · refine ⟨by simp [hlen], fun i h1 h2 => ?_⟩
    simp at h1 h2
    obtain ⟨e1, _, e3⟩ := hall i h1 h2
    simp only [List.getElem_map, e1]
    split
    · exact ⟨rfl, hv, hl⟩
    · exact ⟨e1, hc i h1 h2, e3⟩
  · refine ⟨by simp [hlen], fun i h1 h2 => ?_⟩
    by_cases hi : i < vm.length
    · have hi' : i < pend.length := by omega
      rw [List.getElem_append_left hi, List.getElem_append_left hi']
      exact ⟨(hall i hi hi').1, hc i hi hi', (hall i hi hi').2.2⟩
    · have hi' : ¬ i < pend.length := by omega
      have he : i = vm.length := by simp at h1; omega
      subst he
      rw [List.getElem_append_right (by omega), List.getElem_append_right (by omega)]
      simp [hlen]
      exact ⟨hv, hl⟩
theorem bput_mem {m : List (Int × List UInt8)} {k : Int} {v : List UInt8} {q : Int × List UInt8} (h : q ∈ bput m k v) : q ∈ m ∨ q = (k, v) := by
  unfold bput at h
  split at h
  · obtain ⟨x, hx, rfl⟩ := List.mem_map.1 h
    split
    · exact .inr rfl
    · exact .inl hx
  · rcases List.mem_append.1 h with h | h
    · exact .inl h
    · exact .inr (by simpa using h)
def DS.write (d : DS) (i : Int) (l : List UInt8) : DS × Int :=
  if d.sector i ≠ 0 then (d, d.sector i) else if l.length ≠ 64 then (d, 2) else if d.holds = false then (d.burn, 13) else ({ d.burn with pend := bput d.pend i l }, 0)
theorem DS.burn_lasts (d : DS) : d.burn.lasts = d.lasts ∧ d.burn.pend = d.pend := by unfold DS.burn; split <;> (try split) <;> exact ⟨rfl, rfl⟩
theorem DS.sector_ok {d : DS} {i : Int} (h : d.sector i = 0) : d.down = false ∧ 0 ≤ i ∧ i < d.lasts.length := by
  unfold DS.sector at h
  split at h
  · cases h
  · split at h
    · cases h
    · rename_i h1 h2; exact ⟨by simpa using h1, by omega, by omega⟩
set_option maxHeartbeats 1000000 in
theorem diskWrite (b bl bm : Nat) (C T : Nat → Prop) (d : DS) (i : Int) (v : Value) (l : List UInt8) (w : World) (h : IsDisk w b bl bm C d) (hv : IsRow T w v (bys l)) (hT : ¬ T b) (_hn : l.length ≤ 9223372036854775807) :
    Calls Tryz.prog 24 #[.pointer (some ⟨b, 0, none⟩), .int .i64 i, v] w fun e w' => ∃ C', e = .returned (.int .i64 (d.write i l).2) ∧ IsDisk w' b bl bm C' (d.write i l).1 ∧ (∀ k, C' k → C k ∨ w.heap.size ≤ k) ∧ Mod (fun k => k = b ∨ k = bm) w w' := by
  have HV := Lib.hid hv
  obtain ⟨p, c, rfl, hc⟩ := hv
  rw [bys_length] at *
  clear hc
  by_cases hs : d.sector i = 0
  · by_cases h64 : l.length = 64
    · have hsec := DS.sector_ok hs
      have hbl := d.burn_lasts
      cases hh : d.holds
      · have hr : d.write i l = (d.burn, 13) := by simp [DS.write, hs, h64, hh]
        rw [hr]
        have HS := Lib.hid hs
        have HH := Lib.hid hh
        rw [h64]
        clear hr hs h64 hh hbl
        go_enter Tryz.func24, Tryz.ntmps24
        go_wp2_with fail
        refine (diskSector _ _ _ _ _ _ _ h).mono ?_
        rw [HS.out]
        rintro e w' ⟨rfl, rfl⟩
        go_wp2_with fail
        refine (diskBurns _ _ _ _ _ _ h).mono ?_
        rw [HH.out]
        rintro e w2 ⟨rfl, hd2, hm2⟩
        go_wp2_with fail
        go_ret
        exact ⟨C, rfl, hd2, fun k hk => .inl hk, hm2.mono (fun k _ hk => .inl hk)⟩
      · have hr : d.write i l = ({ d.burn with pend := bput d.pend i l }, 0) := by simp [DS.write, hs, h64, hh]
        rw [hr]
        have HS := Lib.hid hs
        have HH := Lib.hid hh
        have H64 := Lib.hid h64
        have hb : ((l.length : Int) != 64) = false := by rw [h64]; rfl
        clear hr hs hh h64
        go_enter Tryz.func24, Tryz.ntmps24
        go_wp2_with fail
        refine (diskSector _ _ _ _ _ _ _ h).mono ?_
        rw [HS.out]
        rintro e w' ⟨rfl, rfl⟩
        go_wp2_with fail
        refine (diskBurns _ _ _ _ _ _ h).mono ?_
        rw [HH.out]
        rintro e w2 ⟨rfl, hd2, hm2⟩
        go_wp2_with fail
        have c1 : w2.cell? ⟨b, 1, none⟩ = some (.map (some bm)) := cell_of hd2.obj 1
        have HV2 := Lib.hid (HV.out.mod hm2 (fun k _ hk e => hT (e ▸ hk)))
        obtain ⟨vm, hm, hrel⟩ := hd2.pend
        have HM := Lib.hid hm
        have HREL := Lib.hid hrel
        clear hm hrel
        have hlb := heap_lt hd2.obj
        go_region_held3 (fun w' => w'.cell? ⟨b, 1, none⟩ = some (.map (some bm))) (first | with_reducible assumption | exact c1)
          (first | (go_at_call 50; refine (cloneBytes T _ l _ (HV2.out.modNil (Mod.refl _ _).drew) ?_).mono ?_; (have := H64.out; omega); rintro e w8 ⟨v8, rfl, hv8, hm8'⟩; have hm8 := (Mod.refl nil w2).drew.thenNil hm8'; clear hm8'; have c18 := cell_kept c1 hm8 hlb (not_nil _); obtain ⟨w9, hrun9, hmap9, hm9, hsz9⟩ := run_update (P := Tryz.prog) Tryz.underlying80 Tryz.underlying3 (HM.out.mod hm8 (not_nil _)) i v8; have c19 := cell_kept c18 hm9 (Nat.lt_of_lt_of_le hlb hm8.size) h.ne2))
        have hbl1 := hbl.1
        clear hrun9
        go_wp2_with fail
        go_ret
        have hrow8 := hv8.row
        have hC8 : ∀ k, k < w8.heap.size → (C k ∨ (w.heap.size ≤ k ∧ k ≠ b ∧ k ≠ bl ∧ k ≠ bm)) → ¬ k = bm := fun k _ hk e => by
          rcases hk with hk | hk
          · exact h.c3 (e ▸ hk)
          · exact hk.2.2.2 e
        have lb := heap_lt h.obj
        obtain ⟨vl, hl1, hl2, hl3⟩ := h.lasts
        obtain ⟨vm0, hvm0, _⟩ := h.pend
        have lbl := heap_lt hl1
        have lbm := hvm0.lt
        have s2 := hm2.size
        have hnew : ∀ k, w2.heap.size ≤ k → (w.heap.size ≤ k ∧ k ≠ b ∧ k ≠ bl ∧ k ≠ bm) := fun k hk => by omega
        have hd8 := hd2.modNil hm8
        obtain ⟨vl8, hl81, hl82, hl83⟩ := hd8.lasts
        refine ⟨fun k => C k ∨ (w.heap.size ≤ k ∧ k ≠ b ∧ k ≠ bl ∧ k ≠ bm), rfl, ?_, fun k hk => hk.imp id (fun h => h.1), ?_⟩
        · refine { hd8 with
            obj := (hm9.ne b (heap_lt hd8.obj) h.ne2).trans hd8.obj
            lasts := ⟨vl8, (hm9.ne bl (heap_lt hl81) h.ne3).trans hl81, hl82, fun j a a' => ⟨((hl83 j a a').1.mono (fun k _ hk => .inl hk)).mod hm9 hC8, (hl83 j a a').2⟩⟩
            pend := ⟨_, hmap9, ?_⟩
            keys := ?_
            c1 := fun hk => hk.elim h.c1 (fun hk => hk.2.1 rfl)
            c2 := fun hk => hk.elim h.c2 (fun hk => hk.2.2.1 rfl)
            c3 := fun hk => hk.elim h.c3 (fun hk => hk.2.2.2 rfl) }
          · have hrel := HREL.out
            rw [hbl.2] at hrel
            exact hrel.put (fun j a a' => (((hrel.2 j a a').2.1.modNil hm8).mono (fun k _ hk => .inl hk)).mod hm9 hC8) i v8 l ((hrow8.mono (fun k _ hk => .inr (hnew k hk))).mod hm9 hC8) H64.out
          · intro q hq
            show 0 ≤ q.1 ∧ q.1 < d.burn.lasts.length
            rw [hbl.1]
            rcases bput_mem hq with hq | hq
            · exact h.keys q hq
            · rw [hq]; exact hsec.2
        · have m1 : Mod (fun k => k = b ∨ k = bm) w w8 := (hm2.mono (fun k _ hk => .inl hk)).thenNil hm8
          exact m1.trans hm9 (fun k _ hk => .inr hk)
    · have hr : d.write i l = (d, 2) := by simp [DS.write, hs, h64]
      rw [hr]
      have hb : ((l.length : Int) != 64) = true := by rw [bne_iff_ne]; omega
      have HS := Lib.hid hs
      have HD := Lib.hid h
      clear h64 hr hs
      go_enter Tryz.func24, Tryz.ntmps24
      go_wp2_with fail
      refine (diskSector _ _ _ _ _ _ _ h).mono ?_
      rw [HS.out]
      rintro e w' ⟨rfl, rfl⟩
      go_wp2_with fail
      go_ret
      exact ⟨C, rfl, HD.out, fun k hk => .inl hk, Mod.refl _ _⟩
  · have hr : d.write i l = (d, d.sector i) := by simp [DS.write, hs]
    rw [hr]
    have hb : (d.sector i != 0) = true := by rw [bne_iff_ne]; exact hs
    have HD := Lib.hid h
    clear hr hs
    go_enter Tryz.func24, Tryz.ntmps24
    go_wp2_with fail
    refine (diskSector _ _ _ _ _ _ _ h).mono ?_
    rintro e w' ⟨rfl, rfl⟩
    go_wp2_with fail
    go_ret
    exact ⟨C, rfl, HD.out, fun k hk => .inl hk, Mod.refl _ _⟩

def DS.read (d : DS) (i : Int) : List UInt8 × Int :=
  if d.sector i ≠ 0 then ([], d.sector i) else match d.pend.find? (fun p => p.1 == i) with
    | some p => (p.2, 0)
    | none => (d.lasts.getD i.toNat [], 0)
theorem PRel.keys {C : Nat → Prop} {w : World} {vm : List (Int × Value)} {pend : List (Int × List UInt8)} (h : PRel C w vm pend) : vm.map (·.1) = pend.map (·.1) := by
  apply List.ext_getElem (by simp [h.1])
  intro i h1 h2
  simp at h1 h2
  simp [(h.2 i h1 h2).1]
/-- what a key leads to, in both -/
theorem PRel.find {C : Nat → Prop} {w : World} {vm : List (Int × Value)} {pend : List (Int × List UInt8)} (h : PRel C w vm pend) (hn : (vm.map (·.1)).Nodup) (k : Int) :
    (k ∉ vm.map (·.1) ∧ pend.find? (fun p => p.1 == k) = none) ∨ ∃ v l, (k, v) ∈ vm ∧ (k, l) ∈ pend ∧ pend.find? (fun p => p.1 == k) = some (k, l) ∧ IsRow C w v (bys l) ∧ l.length = 64 := by
  by_cases hk : k ∈ vm.map (·.1)
  · right
    obtain ⟨x, hx, hx2⟩ := List.mem_map.1 hk
    obtain ⟨j, hj, rfl⟩ := List.getElem_of_mem hx
    have hj' : j < pend.length := by rw [← h.1]; exact hj
    obtain ⟨e1, e2, e3⟩ := h.2 j hj hj'
    have hfind : pend.find? (fun p => p.1 == k) = some pend[j] := by
      rw [List.find?_eq_some_iff_getElem]
      refine ⟨by simp [← e1, hx2], j, hj', rfl, fun q hq => ?_⟩
      have hnd : (pend.map (·.1)).Nodup := h.keys ▸ hn
      simp only [Bool.not_eq_true', beq_eq_false_iff_ne]
      intro e
      have e4 : (pend.map (·.1))[q]'(by simp; omega) = (pend.map (·.1))[j]'(by simpa) := by simp [e, ← e1, hx2]
      have := (List.getElem_inj hnd).1 e4
      omega
    have hp : pend[j] = (k, pend[j].2) := by
      ext
      · simp [← e1, hx2]
      · rfl
    have hv : vm[j] = (k, vm[j].2) := by
      ext
      · simp [hx2]
      · rfl
    exact ⟨vm[j].2, pend[j].2, hv ▸ List.getElem_mem hj, hp ▸ List.getElem_mem hj', by rw [hfind, ← hp], e2, e3⟩
  · left
    refine ⟨hk, ?_⟩
    rw [List.find?_eq_none]
    intro x hx
    simp only [beq_iff_eq]
    intro e
    apply hk
    rw [h.keys]
    exact List.mem_map.2 ⟨x, hx, e⟩
/-- a pair of the map, and what it reads as -/
theorem PRel.at {C : Nat → Prop} {w : World} {vm : List (Int × Value)} {pend : List (Int × List UInt8)} (h : PRel C w vm pend) (hn : (vm.map (·.1)).Nodup) {k : Int} {v : Value} (hkv : (k, v) ∈ vm) :
    ∃ l, pend.find? (fun p => p.1 == k) = some (k, l) ∧ IsRow C w v (bys l) ∧ l.length = 64 := by
  rcases h.find hn k with ⟨h1, _⟩ | ⟨v2, l2, h1, h2, h3, h4, h5⟩
  · exact absurd (List.mem_map.2 ⟨_, hkv, rfl⟩) h1
  · have : v2 = v := by
      obtain ⟨i, hi, e1⟩ := List.getElem_of_mem h1
      obtain ⟨j, hj, e2⟩ := List.getElem_of_mem hkv
      have e3 : (vm.map (·.1))[i]'(by simpa) = (vm.map (·.1))[j]'(by simpa) := by simp [e1, e2]
      have := (List.getElem_inj hn).1 e3
      subst this
      rw [e1] at e2
      exact (Prod.mk.inj e2).2
    subst this
    exact ⟨l2, h3, h4, h5⟩
theorem zero_slice (w : World) : (zeroValue 22).run Tryz.prog w = .ok (.slice none 0 0) w := by kernel_rfl
set_option maxHeartbeats 1000000 in
theorem diskRead (b bl bm : Nat) (C : Nat → Prop) (d : DS) (i : Int) (w : World) (h : IsDisk w b bl bm C d) :
    Calls Tryz.prog 55 #[.pointer (some ⟨b, 0, none⟩), .int .i64 i] w fun e w' => ∃ v, e = .returned (.tuple #[v, .int .i64 (d.read i).2]) ∧ IsVec (fun k => w.heap.size ≤ k) w' 5 1 v (d.read i).1.length (bys (d.read i).1) ∧ Mod nil w w' := by
  by_cases hs : d.sector i = 0
  · have hsec := DS.sector_ok hs
    have c0 : w.cell? ⟨b, 0, none⟩ = some (.slice (some ⟨bl, 0, none⟩) d.lasts.length d.lasts.length) := cell_of h.obj 0
    have c1 : w.cell? ⟨b, 1, none⟩ = some (.map (some bm)) := cell_of h.obj 1
    have HS := Lib.hid hs
    obtain ⟨vm, hm, hrel⟩ := h.pend
    rcases hrel.find hm.nodup i with ⟨hk, hfind⟩ | ⟨v, l, hkv, hkl, hfind, hrow, hl⟩
    · have hr : d.read i = (d.lasts.getD i.toNat [], 0) := by simp [DS.read, hs, hfind]
      rw [hr]
      obtain ⟨j, rfl⟩ := Int.eq_ofNat_of_zero_le hsec.2.1
      have hjl : j < d.lasts.length := by omega
      obtain ⟨vl, hl1, hl2, hl3⟩ := h.lasts
      obtain ⟨hrow, h64⟩ := hl3 j (by omega) hjl
      rw [Int.toNat_natCast]
      have hget : d.lasts.getD j [] = d.lasts[j] := by simp [hjl]
      rw [hget]
      obtain ⟨l, hle⟩ : ∃ l, d.lasts[j] = l := ⟨_, rfl⟩
      rw [hle] at hrow h64 ⊢
      have hcell : w.cell? ⟨bl, j, none⟩ = some vl[j] := by rw [cell_of hl1]; simp
      obtain ⟨v, hv⟩ : ∃ v, vl[j] = v := ⟨_, rfl⟩
      rw [hv] at hrow hcell
      have hlook := run_lookup_none (P := Tryz.prog) Tryz.underlying80 Tryz.underlying3 (zero_slice w) hm hk
      have hroom := h.room
      clear hr hs hget hle hv hl1 hl2 hl3 hfind hk hm hrel
      go_enter Tryz.func55, Tryz.ntmps55
      go_wp2_with fail
      refine (diskSector _ _ _ _ _ _ _ h).mono ?_
      rw [HS.out]
      rintro e w' ⟨rfl, rfl⟩
      go_wp2_with fail
      refine (cloneBytes C _ l _ hrow (by omega)).mono ?_
      rintro e w2 ⟨v2, rfl, hv2, hm2⟩
      go_wp2_with fail
      go_ret2
      exact ⟨v2, rfl, hv2, hm2⟩
    · have hr : d.read i = (l, 0) := by simp [DS.read, hs, hfind]
      rw [hr]
      have hlook := run_lookup_some (P := Tryz.prog) Tryz.underlying80 Tryz.underlying3 hm hkv
      clear hr hs hfind hkv hkl hm hrel
      go_enter Tryz.func55, Tryz.ntmps55
      go_wp2_with fail
      refine (diskSector _ _ _ _ _ _ _ h).mono ?_
      rw [HS.out]
      rintro e w' ⟨rfl, rfl⟩
      go_wp2_with fail
      refine (cloneBytes C _ l _ hrow (by omega)).mono ?_
      rintro e w2 ⟨v2, rfl, hv2, hm2⟩
      go_wp2_with fail
      go_ret2
      exact ⟨v2, rfl, hv2, hm2⟩
  · have hr : d.read i = ([], d.sector i) := by simp [DS.read, hs]
    rw [hr]
    have hb : (d.sector i != 0) = true := by rw [bne_iff_ne]; exact hs
    clear hr hs
    go_enter Tryz.func55, Tryz.ntmps55
    go_wp2_with fail
    refine (diskSector _ _ _ _ _ _ _ h).mono ?_
    rintro e w' ⟨rfl, rfl⟩
    go_wp2_with fail
    go_ret2
    exact ⟨_, rfl, IsVec.nil _ _ _ _, Mod.refl _ _⟩
end Go.Proofs.YtjilbnpehgigjaaGreat

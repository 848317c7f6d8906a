/- The walks over package disk, the second part: New, Sync, Crash. -/
import Derived.Test.YtjilbnpehgigjaaGreatDisk
namespace Go.Proofs.YtjilbnpehgigjaaGreat
open Go.RowKit

def zeros64 : List UInt8 := List.replicate 64 0
def zeroCells64 : Array Value := (bys zeros64).toArray
theorem make64 (w : World) : (Instr.makeSlice 22 (.int .i64 64) (.int .i64 64)).run Tryz.prog w = .ok (.slice (some ⟨w.heap.size, 0, none⟩) 64 64) (w.alloc (.cells zeroCells64 5)) := by kernel_rfl
theorem info_bytes : (Tryz.prog.info? 22).map (fun i => (i.zero, i.size, i.bytes)) = some (some (.slice none 0 0), 1, 24) := by kernel_rfl
theorem diskNew_bad (n : Int) (w : World) (h : n < 1 ∨ 8192 < n) :
    Calls Tryz.prog 7 #[.int .i64 n] w fun e w' => e = .returned (.tuple #[.pointer none, .int .i64 1]) ∧ w = w' := by
  have hc : n < 1 ∨ (1 ≤ n ∧ 8192 < n) := by omega
  rcases hc with h | ⟨h, h'⟩
  all_goals
    go_enter Tryz.func7, Tryz.ntmps7
    go_wp2
    go_ret2
    exact ⟨rfl, rfl⟩
def freshDisk (n : Nat) : DS := ⟨List.replicate n zeros64, [], -1, false⟩
set_option maxHeartbeats 1000000 in
theorem diskNew (n : Nat) (w : World) (h1 : 1 ≤ n) (h2 : n ≤ 8192) :
    Calls Tryz.prog 7 #[.int .i64 n] w fun e w' => ∃ b bl bm C, e = .returned (.tuple #[.pointer (some ⟨b, 0, none⟩), .int .i64 0]) ∧ IsDisk w' b bl bm C (freshDisk n) ∧ (∀ k, foot b bl bm C k → w.heap.size ≤ k) ∧ Mod nil w w' := by
  obtain ⟨i0, hi, hz0, hz1, hz2⟩ := info_parts info_bytes
  have hmk := run_make_one (P := Tryz.prog) 40 22 i0 (.slice none 0 0) 24 Tryz.underlying40 hi hz0 hz1 hz2 rfl n (by omega) (by unfold maxLen; omega)
  have hmm := @run_makeMap Tryz.prog
  clear hi hz0 hz1 hz2
  go_enter Tryz.func7, Tryz.ntmps7
  go_wp2_with fail
  clear hmk hmm
  have hm0 : Mod nil w (((w.alloc (.cells (Array.replicate n (.slice none 0 0)) 22)).alloc (.map #[] 0)).alloc (.cells #[.slice (some ⟨w.heap.size, 0, none⟩) n n, .map (some (w.heap.size + 1)), .int .i64 (-1), .int .u32 0] 82)) := (((Mod.refl nil w).alloc _).alloc _).alloc _
  have hl0 : (((w.alloc (.cells (Array.replicate n (.slice none 0 0)) 22)).alloc (.map #[] 0)).alloc (.cells #[.slice (some ⟨w.heap.size, 0, none⟩) n n, .map (some (w.heap.size + 1)), .int .i64 (-1), .int .u32 0] 82)).heap[w.heap.size]? = some (.cells (List.replicate n (Value.slice none 0 0)).toArray 22 (0, 0)) :=
    heap_alloc_old (heap_alloc_old (by rw [heap_alloc_new]; simp))
  have hp0 : IMap (((w.alloc (.cells (Array.replicate n (.slice none 0 0)) 22)).alloc (.map #[] 0)).alloc (.cells #[.slice (some ⟨w.heap.size, 0, none⟩) n n, .map (some (w.heap.size + 1)), .int .i64 (-1), .int .u32 0] 82)) (w.heap.size + 1) [] := by
    have h := IMap.new (w.alloc (.cells (Array.replicate n (Value.slice none 0 0)) 22))
    rw [show (w.alloc (.cells (Array.replicate n (Value.slice none 0 0)) 22)).heap.size = w.heap.size + 1 from by simp] at h
    exact h.mod ((Mod.refl nil _).alloc _) (not_nil _)
  have ho0 : (((w.alloc (.cells (Array.replicate n (.slice none 0 0)) 22)).alloc (.map #[] 0)).alloc (.cells #[.slice (some ⟨w.heap.size, 0, none⟩) n n, .map (some (w.heap.size + 1)), .int .i64 (-1), .int .u32 0] 82)).heap[w.heap.size + 1 + 1]? = some (.cells #[.slice (some ⟨w.heap.size, 0, none⟩) n n, .map (some (w.heap.size + 1)), .int .i64 (-1), .int .u32 0] 82 (0, 0)) := by
    have h := heap_alloc_new ((w.alloc (.cells (Array.replicate n (Value.slice none 0 0)) 22)).alloc (.map #[] 0)) (.cells #[.slice (some ⟨w.heap.size, 0, none⟩) n n, .map (some (w.heap.size + 1)), .int .i64 (-1), .int .u32 0] 82)
    simpa using h
  have HM0 := Lib.hid hm0
  have HL0 := Lib.hid hl0
  have HP0 := Lib.hid hp0
  have HO0 := Lib.hid ho0
  clear hm0 hl0 hp0 ho0
  generalize ((w.alloc (.cells (Array.replicate n (Value.slice none 0 0)) 22)).alloc (.map #[] 0)).alloc (.cells #[.slice (some ⟨w.heap.size, 0, none⟩) n n, .map (some (w.heap.size + 1)), .int .i64 (-1), .int .u32 0] 82) = w3 at HM0 HL0 HP0 HO0 ⊢
  generalize hbl : w.heap.size = bl at HL0 HP0 HO0 ⊢
  have HBL := Lib.hid hbl
  clear hbl
  go_loopw [5, 22] (fun _ v wr => ∃ k : Nat, k ≤ n ∧ v = .int .i64 k ∧ wr.heap[bl + 1 + 1]? = some (.cells #[.slice (some ⟨bl, 0, none⟩) n n, .map (some (bl + 1)), .int .i64 (-1), .int .u32 0] 82 (0, 0)) ∧ IMap wr (bl + 1) [] ∧
      (∃ vl : List Value, wr.heap[bl]? = some (.cells vl.toArray 22 (0, 0)) ∧ vl.length = n ∧ ∀ i (h : i < vl.length), i < k → IsRow (fun x => bl + 1 + 1 < x) wr vl[i] (bys zeros64)) ∧ Mod nil w wr) (fun _ v _ => n - (intOf v).toNat)
  case atStart => exact ⟨0, by omega, rfl, HO0.out, HP0.out, ⟨_, HL0.out, by simp, fun i h hi => absurd hi (by omega)⟩, HM0.out⟩
  case round =>
    obtain ⟨k, hk, rfl, ho, hp, ⟨vl, hl, hvl, hrows⟩, hmod⟩ := hrel
    have HO := Lib.hid ho
    have HP := Lib.hid hp
    have HL := Lib.hid hl
    have HVL := Lib.hid hvl
    have HROWS := Lib.hid hrows
    by_cases hlt : k < n
    · have hlto := heap_lt ho
      have hltl := heap_lt hl
      have c0 : wr.cell? ⟨bl + 1 + 1, 0, none⟩ = some (.slice (some ⟨bl, 0, none⟩) n n) := cell_of ho 0
      have ck : wr.cell? ⟨bl, k, none⟩ = some (vl.getD k undef) := by rw [cell_of hl]; simp [show k < vl.length by omega]
      have fk : wr.frozen? ⟨bl, k, none⟩ = false := free_of hl k
      have hmk := make64
      have ha : Mod nil wr (wr.alloc (.cells zeroCells64 5)) := (Mod.refl nil wr).alloc _
      have ca0 := cell_kept c0 ha hlto (not_nil _)
      have cak := cell_kept ck ha hltl (not_nil _)
      have fak : (wr.alloc (.cells zeroCells64 5)).frozen? ⟨bl, k, none⟩ = false := free_of (heap_alloc_old hl) k
      have ms : ∀ v, Mod (· = bl) wr (wr.setCell ⟨bl, k, none⟩ v) := fun v => (Mod.refl _ _).setCell _ _ (fun _ => rfl)
      have cs0 : ∀ v, ((wr.setCell ⟨bl, k, none⟩ v).alloc (.cells zeroCells64 5)).cell? ⟨bl + 1 + 1, 0, none⟩ = some (.slice (some ⟨bl, 0, none⟩) n n) := fun v =>
        cell_kept c0 ((ms v).alloc _) hlto (show bl + 1 + 1 ≠ bl by omega)
      clear ho hp hl hvl hrows
      go_wp2_with fail
      go_region_held3 (fun w' => w'.cell? ⟨bl + 1 + 1, 0, none⟩ = some (.slice (some ⟨bl, 0, none⟩) n n)) (first | exact c0 | exact ca0 | exact cs0 _) (first | fail)
      go_wp2_with fail
      have hv2 := HVL.out
      have m1 : Mod (· = bl) wr ((wr.setCell ⟨bl, k, none⟩ (.slice (some ⟨wr.heap.size, 0, none⟩) 64 64)).alloc (.cells zeroCells64 5)).drew := ((ms _).alloc _).drew
      have hbl := HBL.out
      refine ⟨⟨k + 1, by omega, by go_num, (m1.ne _ (heap_lt HO.out) (by omega)).trans HO.out, HP.out.mod m1 (show bl + 1 ≠ bl by omega), ⟨vl.set k (.slice (some ⟨wr.heap.size, 0, none⟩) 64 64), ?_, by simp [hv2], ?_⟩, hmod.new m1 (by omega)⟩, by simp [intOf]; omega⟩
      · have h := heap_alloc_old (o := .cells zeroCells64 5) (heap_setCell_same HL.out (off := k) (.slice (some ⟨wr.heap.size, 0, none⟩) 64 64))
        simp only [List.setIfInBounds_toArray] at h
        exact h
      · intro i hi hik
        simp only [List.getElem_set]
        split
        · have h : ((wr.setCell ⟨bl, k, none⟩ (.slice (some ⟨wr.heap.size, 0, none⟩) 64 64)).alloc (.cells zeroCells64 5)).heap[wr.heap.size]? = some (.cells (bys zeros64).toArray 5 (0, 0)) := by
            have h := heap_alloc_new (wr.setCell ⟨bl, k, none⟩ (.slice (some ⟨wr.heap.size, 0, none⟩) 64 64)) (.cells zeroCells64 5)
            rw [size_setCell] at h
            exact h
          exact (IsRow.ofBlock h (show bl + 1 + 1 < wr.heap.size by omega) 64 64 (by simp [bys_length, zeros64])).mod (Mod.refl nil _).drew (fun _ _ _ f => f)
        · rename_i hne
          exact (HROWS.out i (by simpa using hi) (by omega)).mod m1 (fun x _ hx e => by omega)
    · obtain rfl : k = n := by omega
      go_wp2_with fail
      go_ret2
      have hbl := HBL.out
      refine ⟨_, bl, bl + 1, fun x => bl + 1 + 1 < x, rfl, ?_, ?_, hmod⟩
      · exact { obj := by simpa [freshDisk, b01] using ho, lasts := ⟨vl, hl, by simp [freshDisk, hvl], fun i a a' => ⟨by simpa [freshDisk] using hrows i a (by omega), by simp [freshDisk, zeros64]⟩⟩, pend := ⟨[], hp, by simp [PRel, freshDisk]⟩, keys := by simp [freshDisk], room := by simpa [freshDisk] using h2, fz := by simp [freshDisk], ne1 := by omega, ne2 := by omega, ne3 := by omega, c1 := by omega, c2 := by omega, c3 := by omega }
      · intro x hx
        rcases hx with h | h | h | h <;> omega

/-- what lasts of a sector while some of what is pending ('left') has not been laid down yet -/
def laid (d : DS) (left : List Int) (i : Nat) : List UInt8 :=
  match d.pend.find? (fun p => p.1 == (i : Int)) with
  | some p => if (i : Int) ∈ left then d.lasts.getD i [] else p.2
  | none => d.lasts.getD i []
theorem laid_start (d : DS) (i : Nat) {left : List Int} (h : ∀ k ∈ d.pend.map (·.1), k ∈ left) : laid d left i = d.lasts.getD i [] := by
  unfold laid
  split
  · rename_i p hp
    have h1 := List.mem_of_find?_eq_some hp
    have h2 := List.find?_some hp
    simp only [beq_iff_eq] at h2
    rw [if_pos (h _ (List.mem_map.2 ⟨p, h1, h2⟩))]
  · rfl
theorem laid_other (d : DS) (i : Nat) (k : Int) (left : List (Int × Value)) (h : (i : Int) ≠ k) : laid d ((left.filter (fun p => p.1 ≠ k)).map (·.1)) i = laid d (left.map (·.1)) i := by
  unfold laid
  have : (i : Int) ∈ (left.filter (fun p => p.1 ≠ k)).map (·.1) ↔ (i : Int) ∈ left.map (·.1) := by
    simp only [List.mem_map, List.mem_filter]
    constructor
    · rintro ⟨p, ⟨h1, _⟩, h3⟩; exact ⟨p, h1, h3⟩
    · rintro ⟨p, h1, h3⟩; exact ⟨p, ⟨h1, by simp [h3, h]⟩, h3⟩
  simp only [this]
theorem laid_same (d : DS) (k : Nat) (l : List UInt8) (left : List (Int × Value)) (h : d.pend.find? (fun p => p.1 == (k : Int)) = some ((k : Int), l)) : laid d ((left.filter (fun p => p.1 ≠ (k : Int))).map (·.1)) k = l := by
  unfold laid
  rw [h]
  have : ¬ (k : Int) ∈ (left.filter (fun p => p.1 ≠ (k : Int))).map (·.1) := by
    simp only [List.mem_map, List.mem_filter]
    rintro ⟨p, ⟨_, h2⟩, h3⟩
    simp [h3] at h2
  simp only [if_neg this]
theorem DS.burn_fz (d : DS) (h : -1 ≤ d.fuse ∧ d.fuse ≤ 9223372036854775807) : -1 ≤ d.burn.fuse ∧ d.burn.fuse ≤ 9223372036854775807 := by
  unfold DS.burn; split
  · exact h
  · split
    · simp only; omega
    · exact h
def DS.synced (d : DS) : List (List UInt8) := (List.range d.lasts.length).map (laid d [])
def DS.sync (d : DS) : DS × Int :=
  if d.down then (d, 13) else if d.holds = false then (d.burn, 13) else ({ d.burn with lasts := d.synced, pend := [] }, 0)
set_option maxRecDepth 100000 in
set_option maxHeartbeats 1000000 in
theorem diskSync (b bl bm : Nat) (C : Nat → Prop) (d : DS) (w : World) (h : IsDisk w b bl bm C d) :
    Calls Tryz.prog 59 #[.pointer (some ⟨b, 0, none⟩)] w fun e w' => e = .returned (.int .i64 d.sync.2) ∧ IsDisk w' b bl bm C d.sync.1 ∧ Mod (fun k => k = b ∨ k = bl ∨ k = bm) w w' := by
  have c3 : w.cell? ⟨b, 3, none⟩ = some (.int .u32 (b01 d.down)) := cell_of h.obj 3
  cases hdn : d.down
  · rw [hdn] at c3
    cases hh : d.holds
    · have hr : d.sync = (d.burn, 13) := by simp [DS.sync, hdn, hh]
      rw [hr]
      have HH := Lib.hid hh
      clear hr hdn hh
      go_enter Tryz.func59, Tryz.ntmps59
      go_wp2_with fail
      refine (boolLoad _ _ _ _ c3).mono ?_
      rintro e w' ⟨rfl, rfl⟩
      go_wp2_with fail
      refine (diskBurns _ _ _ _ _ _ h).mono ?_
      rw [HH.out]
      rintro e w2 ⟨rfl, hd2, hm2⟩
      go_wp2_with fail
      go_ret
      exact ⟨rfl, hd2, hm2.mono (fun k _ hk => .inl hk)⟩
    · have hr : d.sync = ({ d.burn with lasts := d.synced, pend := [] }, 0) := by simp [DS.sync, hdn, hh]
      rw [hr]
      have HH := Lib.hid hh
      have hbl := d.burn_lasts
      clear hr hdn hh
      go_enter Tryz.func59, Tryz.ntmps59
      go_wp2_with fail
      refine (boolLoad _ _ _ _ c3).mono ?_
      rintro e w' ⟨rfl, rfl⟩
      go_wp2_with fail
      refine (diskBurns _ _ _ _ _ _ h).mono ?_
      rw [HH.out]
      rintro e w2 ⟨rfl, hd2, hm2⟩
      have c1 : w2.cell? ⟨b, 1, none⟩ = some (.map (some bm)) := cell_of hd2.obj 1
      obtain ⟨vm, hmap, hrel⟩ := hd2.pend
      obtain ⟨w3, hrun, hit, hm3, hsz3⟩ := run_range (P := Tryz.prog) Tryz.underlying80 hmap
      go_wp2_with fail
      clear hrun c3 hsz3
      obtain ⟨vl3, hl21, hl32, hl23⟩ := hd2.lasts
      have hrz : w2.heap.size ≤ w2.heap.size := Nat.le_refl _
      have hrb : b < w2.heap.size := heap_lt hd2.obj
      have hrl : bl < w2.heap.size := heap_lt hl21
      have hrm : bm < w2.heap.size := hmap.lt
      have hwr : w.heap.size ≤ w2.heap.size := hm2.size
      have hrel2 := hrel.mono (D := fun k => C k ∧ k < w2.heap.size) (fun k hk hc => ⟨hc, hk⟩)
      have hrel3 := hrel2.mod hm3 (fun _ _ _ f => f)
      have hrows2 : ∀ i (a : i < vl3.length) (a' : i < d.burn.lasts.length), IsRow (fun k => C k ∧ k < w2.heap.size) w3 vl3[i] (bys d.burn.lasts[i]) ∧ d.burn.lasts[i].length = 64 := fun i a a' =>
        ⟨((hl23 i a a').1.mono (fun k hk hc => ⟨hc, hk⟩)).modNil hm3, (hl23 i a a').2⟩
      have hl31 := hm3.keep hl21
      have hobj3 := hm3.keep hd2.obj
      have hmod3 : Mod (fun k => k = b ∨ k = bl) w w3 := (hm2.mono (fun k _ hk => .inl hk)).thenNil hm3
      have hn := hit.map.nodup
      have HN := Lib.hid hn
      have hroom := h.room
      have hkeys := h.keys
      rw [← hbl.2] at hkeys
      clear hn c1 hmap hrel hrel2 hl23 hl21 hd2
      generalize w2.heap.size = r at hit hrz hrb hrl hrm hwr hrel3 hrows2 ⊢
      have hlen3 : vl3.length = d.lasts.length := by rw [hl32, hbl.1]
      have hrows3 : ∀ i (a : i < vl3.length), IsRow (fun k => C k ∧ k < r) w3 vl3[i] (bys (laid d (vm.map (·.1)) i)) ∧ (laid d (vm.map (·.1)) i).length = 64 := by
        intro i a
        rw [laid_start d i (by rw [hrel3.keys, hbl.2]; exact fun k hk => hk)]
        have a' : i < d.burn.lasts.length := by omega
        have := hrows2 i a a'
        rw [show d.burn.lasts[i] = d.lasts.getD i [] by simp [hbl.1, show i < d.lasts.length by omega]] at this
        exact this
      clear hrows2 hl32
      go_loopw [3] (fun _ wr => ∃ left, IIter wr r bm vm left ∧ wr.heap[b]? = some (.cells #[.slice (some ⟨bl, 0, none⟩) d.lasts.length d.lasts.length, .map (some bm), .int .i64 d.burn.fuse, .int .u32 (b01 d.burn.down)] 82 (0, 0)) ∧
          (∃ vl : List Value, wr.heap[bl]? = some (.cells vl.toArray 22 (0, 0)) ∧ vl.length = d.lasts.length ∧ ∀ i (a : i < vl.length), IsRow (fun k => C k ∧ k < r) wr vl[i] (bys (laid d (left.map (·.1)) i)) ∧ (laid d (left.map (·.1)) i).length = 64) ∧
          PRel (fun k => C k ∧ k < r) wr vm d.burn.pend ∧ Mod (fun k => k = b ∨ k = bl) w wr ∧ (∀ p ∈ left, p ∈ vm)) (fun _ wr => iterLeft wr r bm)
      case atStart =>
        exact ⟨vm, hit, by rw [← hbl.1]; exact hobj3, ⟨vl3, hl31, hlen3, hrows3⟩, hrel3, hmod3, fun p hp => hp⟩
      case round =>
        obtain ⟨left, hit, hobj, ⟨vl, hl, hvl, hrows⟩, hrel, hmod, hsub⟩ := hrel
        have HIT := Lib.hid hit
        have HOBJ := Lib.hid hobj
        have HL := Lib.hid hl
        have HVL := Lib.hid hvl
        have HROWS := Lib.hid hrows
        have HREL := Lib.hid hrel
        have HSUB := Lib.hid hsub
        have hn : (vm.map (·.1)).Nodup := HN.out
        rcases run_next (P := Tryz.prog) 0 hit with ⟨hleft, hrun⟩ | ⟨k, v, w4, hin, hrun, hit4, hm4, hz4, hent⟩
        · subst hleft
          have c1 : wr.cell? ⟨b, 1, none⟩ = some (.map (some bm)) := cell_of hobj 1
          obtain ⟨w5, hcl, hmap5, hm5, hz5⟩ := run_clear (P := Tryz.prog) (r := 0) Tryz.underlying80 hit.map
          have HCL := Lib.hid hcl
          clear hit hobj hl hvl hrows hrel hsub hcl hz5 hrel3 hrows3 hobj3 hl31
          go_wp2_with fail
          rw [HCL.out]
          simp only [Result.andThen_ok]
          go_wp2_with fail
          go_ret
          have hit := HIT.out
          have hobj := HOBJ.out
          have hl := HL.out
          have hrows := HROWS.out
          have hne : b ≠ bm := h.ne2
          have hne' : bl ≠ bm := h.ne3
          have hC5 : ∀ k, k < wr.heap.size → C k → ¬ k = bm := fun k _ hk e => h.c3 (e ▸ hk)
          refine ⟨rfl, ?_, (hmod.mono (fun k _ hk => hk.elim .inl (fun e => .inr (.inl e)))).trans hm5 (fun k _ hk => .inr (.inr hk))⟩
          exact { obj := by simpa [DS.synced] using (hm5.ne b (heap_lt hobj) hne).trans hobj
                  lasts := ⟨vl, (hm5.ne bl (heap_lt hl) hne').trans hl, by simp [DS.synced, HVL.out], fun i a a' => by
                    have := hrows i a
                    have e : d.synced[i]'(by simpa using a') = laid d (([] : List (Int × Value)).map (·.1)) i := by simp [DS.synced]
                    show IsRow C w5 vl[i] (bys (d.synced[i]'(by simpa using a'))) ∧ (d.synced[i]'(by simpa using a')).length = 64
                    rw [e]
                    exact ⟨(this.1.mono (fun k _ hk => hk.1)).mod hm5 hC5, this.2⟩⟩
                  pend := ⟨[], hmap5, by simp [PRel]⟩
                  keys := by simp
                  room := by simpa [DS.synced] using hroom
                  fz := (d.burn_fz h.fz)
                  ne1 := h.ne1, ne2 := h.ne2, ne3 := h.ne3, c1 := h.c1, c2 := h.c2, c3 := h.c3 }
        · have hkv := hsub _ hin
          obtain ⟨l2, hfind, hrow2, h64⟩ := hrel.at hn hkv
          have H64 := Lib.hid h64
          clear h64
          have hrow4 := hrow2.mod hm4 (fun x _ hx e => by omega)
          have hrows4 : ∀ i (a : i < vl.length), IsRow (fun k => C k ∧ k < r) w4 vl[i] (bys (laid d (left.map (·.1)) i)) ∧ (laid d (left.map (·.1)) i).length = 64 := fun i a => ⟨(hrows i a).1.mod hm4 (fun x _ hx e => by omega), (hrows i a).2⟩
          have hrel4 := hrel.mod hm4 (fun x _ hx e => by omega)
          have HROW4 := Lib.hid hrow4
          have HROWS4 := Lib.hid hrows4
          have HREL4 := Lib.hid hrel4
          have HLESS := Lib.hid (filter_less hin)
          have HLEFT := Lib.hid hit.left
          obtain ⟨pv, cv, rfl, _⟩ := hrow2
          rw [bys_length] at *
          obtain ⟨hk0, hk1⟩ : 0 ≤ k ∧ k < d.lasts.length := hkeys _ (List.mem_of_find?_eq_some hfind)
          obtain ⟨k, rfl⟩ := Int.eq_ofNat_of_zero_le hk0
          have hkl : k < d.lasts.length := by omega
          have hobj4 := (hm4.ne b (heap_lt hobj) (by omega)).trans hobj
          have hl4 := (hm4.ne bl (heap_lt hl) (by omega)).trans hl
          have c0 : w4.cell? ⟨b, 0, none⟩ = some (.slice (some ⟨bl, 0, none⟩) d.lasts.length d.lasts.length) := cell_of hobj4 0
          have ck : w4.cell? ⟨bl, k, none⟩ = some (vl.getD k undef) := by rw [cell_of hl4]; simp [show k < vl.length by omega]
          have fk : w4.frozen? ⟨bl, k, none⟩ = false := free_of hl4 k
          have HOBJ4 := Lib.hid hobj4
          have HL4 := Lib.hid hl4
          have HIT4 := Lib.hid hit4
          have HF := Lib.hid hfind
          clear hit hobj hl hvl hrows hrel hsub hz4 hrel3 hrows3 hobj3 hl31 hobj4 hl4 hit4 hfind hin hkv hn hrow4 hrows4 hrel4
          go_wp2_with fail
          have ms : Mod (· = bl) w4 (w4.setCell ⟨bl, k, none⟩ (.slice pv l2.length cv)) := (Mod.refl _ _).setCell _ _ (fun _ => rfl)
          have hCb : ∀ x, x < w4.heap.size → (C x ∧ x < r) → ¬ x = bl := fun x _ hx e => h.c2 (e ▸ hx.1)
          have hit5 := HIT4.out.mod ms (by omega) (Ne.symm h.ne3)
          have hm5 : Mod (fun k => k = b ∨ k = bl) w (w4.setCell ⟨bl, k, none⟩ (.slice pv l2.length cv)) := (hmod.trans (T := fun x => x = r) hm4 (fun x hx e => by omega)).trans ms (fun x _ hx => .inr hx)
          have hvl := HVL.out
          have hsame := laid_same d k l2 left (hbl.2 ▸ HF.out)
          refine ⟨⟨_, hit5, (ms.ne b (heap_lt HOBJ4.out) h.ne1).trans HOBJ4.out, ⟨vl.set k (.slice pv l2.length cv), ?_, by simp [hvl], ?_⟩, HREL4.out.mod ms hCb, hm5, fun q hq => HSUB.out q (List.mem_filter.1 hq).1⟩, ?_⟩
          · rw [heap_setCell_same HL4.out]; simp
          · intro i hi
            simp only [List.getElem_set]
            split
            · rename_i e
              subst e
              rw [hsame]
              exact ⟨HROW4.out.mod ms hCb, H64.out⟩
            · rename_i e
              rw [laid_other d i k left (by omega)]
              have := HROWS4.out i (by simpa using hi)
              exact ⟨this.1.mod ms hCb, this.2⟩
          · rw [hit5.left, HLEFT.out]; exact HLESS.out
  · rw [hdn] at c3
    have hr : d.sync = (d, 13) := by simp [DS.sync, hdn]
    rw [hr]
    clear hr hdn
    go_enter Tryz.func59, Tryz.ntmps59
    go_wp2_with fail
    refine (boolLoad _ _ _ _ c3).mono ?_
    rintro e w' ⟨rfl, rfl⟩
    go_wp2_with fail
    go_ret
    exact ⟨rfl, h, Mod.refl _ _⟩
end Go.Proofs.YtjilbnpehgigjaaGreat

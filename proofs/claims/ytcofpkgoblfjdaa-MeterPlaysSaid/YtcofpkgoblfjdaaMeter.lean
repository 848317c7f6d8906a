/- The walks over package meter and sync/atomic's Int64: each function's contract. -/
import Derived.Test.YtcofpkgoblfjdaaChecked
import Derived.Test.YtcofpkgoblfjdaaBase
namespace Go.Proofs.Ytcofpkgoblfjdaa
open Go.RowKit

theorem run_call_swap {P : Program} {f : FuncId} {fn : Func} (hf : P.funcs[f]? = some fn) (hname : (fn.name == "runtime.NumGoroutine") = false) (hb : fn.body.isNone = true) (hn : Extern.findNext fn = none) (k : IntKind)
    (he : Extern.find fn = some (Extern.Atomic.swapT (.int k))) {a : Addr} {x y : Int} {w : World} (hc : w.cell? a = some (.int k x)) (hz : w.frozen? a = false) :
    (callFunc f #[.pointer (some a), .int k y]).run P w = .ok (.value (.int k x)) (w.setCell a (.int k y)) := by
  rw [run_callFunc_extern hf hname hb hn he]
  change (Sem.run P (do
    let a' ← asAddr (.pointer (some a))
    let old ← Extern.Atomic.read (.int k) a'
    store a' (.int k y) .atomic
    pure old) w).andThen _ = _
  simp [Extern.Atomic.read, asAddr, hc, hz, run_store P w a (.int k y) .atomic rfl, Result.andThen]

/-- block b is a meter that stands at l -/
def IsMeter (w : World) (b : Nat) (l : List Int) : Prop := l.length = 8 ∧ w.heap[b]? = some (.cells (ints l) 45 (0, 0))
theorem IsMeter.cell {w : World} {b : Nat} {l : List Int} (h : IsMeter w b l) {k : Nat} (hk : k < 8) : w.cell? ⟨b, k, none⟩ = some (.int .i64 (l.getD k 0)) := by
  rw [cell_of h.2, ints_get (h.1 ▸ hk)]
theorem IsMeter.free {w : World} {b : Nat} {l : List Int} (h : IsMeter w b l) (k : Nat) : w.frozen? ⟨b, k, none⟩ = false := free_of h.2 k
theorem IsMeter.lt {w : World} {b : Nat} {l : List Int} (h : IsMeter w b l) : b < w.heap.size := heap_lt h.2
theorem IsMeter.mod {S : Nat → Prop} {w w' : World} {b : Nat} {l : List Int} (h : IsMeter w b l) (m : Mod S w w') (hs : ¬ S b) : IsMeter w' b l :=
  ⟨h.1, (m.block b h.lt hs).trans h.2⟩
theorem IsMeter.ne {w w' : World} {b c : Nat} {l : List Int} (h : IsMeter w b l) (m : Mod (· = c) w w') (hs : b ≠ c) : IsMeter w' b l := h.mod m hs
theorem IsMeter.set {w : World} {b : Nat} {l : List Int} (h : IsMeter w b l) (k : Nat) (x : Int) : IsMeter (w.setCell ⟨b, k, none⟩ (.int .i64 x)) b (l.set k x) :=
  ⟨by simp [h.1], by rw [heap_setCell_same h.2, ints_set]⟩

theorem meterNew (w : World) :
    Calls Try.prog 8 #[] w fun e w' => ∃ b, e = .returned (.pointer (some ⟨b, 0, none⟩)) ∧ w.heap.size ≤ b ∧ IsMeter w' b [0,0,0,0,0,0,0,0] ∧ Mod nil w w' := by
  go_enter Try.func8, Try.ntmps8
  go_wp2
  go_ret
  exact ⟨_, rfl, Nat.le_refl _, ⟨rfl, by rw [heap_alloc_new]; rfl⟩, (Mod.refl _ _).alloc _⟩
theorem has_yes (k : Int) (w : World) (h0 : 0 ≤ k) (h1 : k < 8) :
    Calls Try.prog 15 #[.int .i64 k] w fun e w' => e = .returned (.bool true) ∧ w = w' := by
  go_enter Try.func15, Try.ntmps15
  go_wp2
  all_goals go_ret
  all_goals exact ⟨by simp; try omega, rfl⟩
theorem has_no (k : Int) (w : World) (h0 : ¬ (0 ≤ k ∧ k < 8)) :
    Calls Try.prog 15 #[.int .i64 k] w fun e w' => e = .returned (.bool false) ∧ w = w' := by
  go_enter Try.func15, Try.ntmps15
  go_wp2
  all_goals go_ret
  all_goals exact ⟨by simp; try omega, rfl⟩
theorem at_add (b k : Nat) (x d : Int) (w : World) (hc : w.cell? ⟨b, k, none⟩ = some (.int .i64 x)) (hz : w.frozen? ⟨b, k, none⟩ = false) :
    Calls Try.prog 16 #[.pointer (some ⟨b, k, none⟩), .int .i64 d] w fun e w' => e = .returned (.int .i64 (wrap64 (x + d))) ∧ w' = w.setCell ⟨b, k, none⟩ (.int .i64 (wrap64 (x + d))) := by
  have hadd := run_call_add (P := Try.prog) Try.func20 (by kernel_rfl) (by kernel_rfl) (by kernel_rfl) .i64 (by kernel_rfl) (y := d) (s := wrap64 (x + d)) hc hz (by simp [Op.intArith, IntWalk.i64_left])
  go_enter Try.func16, Try.ntmps16
  go_wp2
  go_ret
  exact ⟨rfl, rfl⟩
theorem at_load (b k : Nat) (x : Int) (w : World) (hc : w.cell? ⟨b, k, none⟩ = some (.int .i64 x)) :
    Calls Try.prog 17 #[.pointer (some ⟨b, k, none⟩)] w fun e w' => e = .returned (.int .i64 x) ∧ w = w' := by
  have hadd := run_call_load (P := Try.prog) Try.func21 (by kernel_rfl) (by kernel_rfl) (by kernel_rfl) .i64 (by kernel_rfl) hc
  go_enter Try.func17, Try.ntmps17
  go_wp2
  go_ret
  exact ⟨rfl, rfl⟩
theorem at_swap (b k : Nat) (x d : Int) (w : World) (hc : w.cell? ⟨b, k, none⟩ = some (.int .i64 x)) (hz : w.frozen? ⟨b, k, none⟩ = false) :
    Calls Try.prog 18 #[.pointer (some ⟨b, k, none⟩), .int .i64 d] w fun e w' => e = .returned (.int .i64 x) ∧ w' = w.setCell ⟨b, k, none⟩ (.int .i64 d) := by
  have hadd := run_call_swap (P := Try.prog) Try.func22 (by kernel_rfl) (by kernel_rfl) (by kernel_rfl) .i64 (by kernel_rfl) (y := d) hc hz
  go_enter Try.func18, Try.ntmps18
  go_wp2
  go_ret
  exact ⟨rfl, rfl⟩
theorem at_cas (b k : Nat) (x d : Int) (w : World) (hc : w.cell? ⟨b, k, none⟩ = some (.int .i64 x)) (hz : w.frozen? ⟨b, k, none⟩ = false) :
    Calls Try.prog 19 #[.pointer (some ⟨b, k, none⟩), .int .i64 x, .int .i64 d] w fun e w' => e = .returned (.bool true) ∧ w' = w.setCell ⟨b, k, none⟩ (.int .i64 d) := by
  have hadd := run_call_cas_hit (P := Try.prog) Try.func23 (by kernel_rfl) (by kernel_rfl) (by kernel_rfl) .i64 (by kernel_rfl) (y := d) hc hz
  go_enter Try.func19, Try.ntmps19
  go_wp2
  go_ret
  exact ⟨rfl, rfl⟩
theorem meterAdd (b : Nat) (l : List Int) (k : Int) (h0 : 0 ≤ k) (h1 : k < 8) (d : Int) (w : World) (hm : IsMeter w b l) :
    Calls Try.prog 10 #[.pointer (some ⟨b, 0, none⟩), .int .i64 k, .int .i64 d] w fun e w' => e = .returned (.bool true) ∧ IsMeter w' b (l.set k.toNat (wrap64 (l.getD k.toNat 0 + d))) ∧ Mod (· = b) w w' := by
  obtain ⟨k, rfl⟩ := Int.eq_ofNat_of_zero_le h0
  rw [Int.toNat_natCast]
  have hk : k < 8 := by omega
  have hc := hm.cell hk
  have hz := hm.free k
  go_enter Try.func10, Try.ntmps10
  go_wp2_with (first | (go_at_call 15; refine (has_yes _ _ (by omega) (by omega)).mono ?_; rintro e w' ⟨rfl, rfl⟩) | (go_at_call 16; refine (at_add _ _ _ _ _ hc hz).mono ?_; rintro e w' ⟨rfl, rfl⟩))
  go_ret
  exact ⟨rfl, hm.set _ _, (Mod.refl _ _).setCell _ _ (fun _ => rfl)⟩
theorem meterAdd_no (b : Nat) (k : Int) (hk : ¬ (0 ≤ k ∧ k < 8)) (d : Int) (w : World) :
    Calls Try.prog 10 #[.pointer (some ⟨b, 0, none⟩), .int .i64 k, .int .i64 d] w fun e w' => e = .returned (.bool false) ∧ w = w' := by
  go_enter Try.func10, Try.ntmps10
  go_wp2_with (first | (go_at_call 15; refine (has_no _ _ hk).mono ?_; rintro e w' ⟨rfl, rfl⟩))
  go_ret
  exact ⟨rfl, rfl⟩
theorem meterGet (b : Nat) (l : List Int) (k : Int) (h0 : 0 ≤ k) (h1 : k < 8) (w : World) (hm : IsMeter w b l) :
    Calls Try.prog 11 #[.pointer (some ⟨b, 0, none⟩), .int .i64 k] w fun e w' => e = .returned (.int .i64 (l.getD k.toNat 0)) ∧ w = w' := by
  obtain ⟨k, rfl⟩ := Int.eq_ofNat_of_zero_le h0
  rw [Int.toNat_natCast]
  have hk : k < 8 := by omega
  have hc := hm.cell hk
  go_enter Try.func11, Try.ntmps11
  go_wp2_with (first | (go_at_call 15; refine (has_yes _ _ (by omega) (by omega)).mono ?_; rintro e w' ⟨rfl, rfl⟩) | (go_at_call 17; refine (at_load _ _ _ _ hc).mono ?_; rintro e w' ⟨rfl, rfl⟩))
  go_ret
  exact ⟨rfl, rfl⟩
theorem meterGet_no (b : Nat) (k : Int) (hk : ¬ (0 ≤ k ∧ k < 8)) (w : World) :
    Calls Try.prog 11 #[.pointer (some ⟨b, 0, none⟩), .int .i64 k] w fun e w' => e = .returned (.int .i64 0) ∧ w = w' := by
  go_enter Try.func11, Try.ntmps11
  go_wp2_with (first | (go_at_call 15; refine (has_no _ _ hk).mono ?_; rintro e w' ⟨rfl, rfl⟩))
  go_ret
  exact ⟨rfl, rfl⟩
theorem meterSwap (b : Nat) (l : List Int) (k : Int) (h0 : 0 ≤ k) (h1 : k < 8) (d : Int) (w : World) (hm : IsMeter w b l) :
    Calls Try.prog 12 #[.pointer (some ⟨b, 0, none⟩), .int .i64 k, .int .i64 d] w fun e w' => e = .returned (.int .i64 (l.getD k.toNat 0)) ∧ IsMeter w' b (l.set k.toNat d) ∧ Mod (· = b) w w' := by
  obtain ⟨k, rfl⟩ := Int.eq_ofNat_of_zero_le h0
  rw [Int.toNat_natCast]
  have hk : k < 8 := by omega
  have hc := hm.cell hk
  have hz := hm.free k
  go_enter Try.func12, Try.ntmps12
  go_wp2_with (first | (go_at_call 15; refine (has_yes _ _ (by omega) (by omega)).mono ?_; rintro e w' ⟨rfl, rfl⟩) | (go_at_call 18; refine (at_swap _ _ _ _ _ hc hz).mono ?_; rintro e w' ⟨rfl, rfl⟩))
  go_ret
  exact ⟨rfl, hm.set _ _, (Mod.refl _ _).setCell _ _ (fun _ => rfl)⟩
theorem meterSwap_no (b : Nat) (k : Int) (hk : ¬ (0 ≤ k ∧ k < 8)) (d : Int) (w : World) :
    Calls Try.prog 12 #[.pointer (some ⟨b, 0, none⟩), .int .i64 k, .int .i64 d] w fun e w' => e = .returned (.int .i64 0) ∧ w = w' := by
  go_enter Try.func12, Try.ntmps12
  go_wp2_with (first | (go_at_call 15; refine (has_no _ _ hk).mono ?_; rintro e w' ⟨rfl, rfl⟩))
  go_ret
  exact ⟨rfl, rfl⟩
theorem meterMost_no (b : Nat) (k : Int) (hk : ¬ (0 ≤ k ∧ k < 8)) (d : Int) (w : World) :
    Calls Try.prog 14 #[.pointer (some ⟨b, 0, none⟩), .int .i64 k, .int .i64 d] w fun e w' => e = .returned (.int .i64 0) ∧ w = w' := by
  go_enter Try.func14, Try.ntmps14
  go_wp2
  refine wp_loop_rounds 1 ?_; rw [rounds_succ]
  go_wp2_with (first | (go_at_call 15; refine (has_no _ _ hk).mono ?_; rintro e w' ⟨rfl, rfl⟩))
  go_ret
  exact ⟨rfl, rfl⟩
theorem meterMost (b : Nat) (l : List Int) (k : Int) (h0 : 0 ≤ k) (h1 : k < 8) (d : Int) (w : World) (hm : IsMeter w b l) :
    Calls Try.prog 14 #[.pointer (some ⟨b, 0, none⟩), .int .i64 k, .int .i64 d] w fun e w' => e = .returned (.int .i64 (max (l.getD k.toNat 0) d)) ∧ IsMeter w' b (l.set k.toNat (max (l.getD k.toNat 0) d)) ∧ Mod (· = b) w w' := by
  obtain ⟨k, rfl⟩ := Int.eq_ofNat_of_zero_le h0
  rw [Int.toNat_natCast]
  have hk : k < 8 := by omega
  have hc := hm.cell hk
  have hz := hm.free k
  go_enter Try.func14, Try.ntmps14
  go_wp2
  refine wp_loop_rounds 1 ?_; rw [rounds_succ]
  go_wp2_with (first | (go_at_call 15; refine (has_yes _ _ (by omega) (by omega)).mono ?_; rintro e w' ⟨rfl, rfl⟩) | (go_at_call 17; refine (at_load _ _ _ _ hc).mono ?_; rintro e w' ⟨rfl, rfl⟩) | (go_at_call 19; refine (at_cas _ _ _ _ _ hc hz).mono ?_; rintro e w' ⟨rfl, rfl⟩))
  all_goals go_ret
  · rename_i h _
    have e : max (l.getD k 0) d = d := by simp; omega
    rw [e]
    exact ⟨rfl, hm.set _ _, (Mod.refl _ _).setCell _ _ (fun _ => rfl)⟩
  · rename_i h
    have e : max (l.getD k 0) d = l.getD k 0 := by simp; omega
    have hkl : k < l.length := by rw [hm.1]; exact hk
    have e2 : l.set k (l.getD k 0) = l := by simp [hkl]
    have e3 : max (l[k]?.getD 0) d = l.getD k 0 := by simpa using e
    rw [e3, e2]
    exact ⟨rfl, hm, Mod.refl _ _⟩
theorem meterAll (b : Nat) (l : List Int) (w : World) (hm : IsMeter w b l) :
    Calls Try.prog 9 #[.pointer (some ⟨b, 0, none⟩)] w fun e w' => ∃ b', e = .returned (.slice (some ⟨b', 0, none⟩) 8 8) ∧ w.heap.size ≤ b' ∧ w'.heap[b']? = some (.cells (ints l) 3 (0, 0)) ∧ Mod nil w w' := by
  have hmk : ∀ w, (Instr.makeSlice 22 (.int .i64 8) (.int .i64 8)).run Try.prog w = .ok (.slice (some ⟨w.heap.size, 0, none⟩) 8 8) (w.alloc (.cells (ints [0,0,0,0,0,0,0,0]) 3)) := fun _ => by kernel_rfl
  go_enter Try.func9, Try.ntmps9
  go_wp2
  clear hmk
  go_loopw [4, 8] (fun _ v wr => ∃ k : Nat, k ≤ 8 ∧ v = .int .i64 k ∧ IsMeter wr b l ∧ wr.heap[w.heap.size]? = some (.cells (ints (l.take k ++ List.replicate (8 - k) 0)) 3 (0, 0)) ∧ Mod nil w wr) (fun _ v _ => 8 - (intOf v).toNat)
  case atStart =>
    refine ⟨0, by omega, rfl, hm.mod ((Mod.refl nil _).alloc _) (not_nil _), by rw [heap_alloc_new]; rfl, (Mod.refl _ _).alloc _⟩
  case round =>
    obtain ⟨k, hk, rfl, hmr, hb, hmod⟩ := hrel
    by_cases hlt : k < 8
    · have hz : wr.cell? ⟨w.heap.size, k, none⟩ = some (.int .i64 0) := by
        have hl := hm.1
        rw [cell_of hb, ints_get (by simp; omega), List.getD_eq_getElem?_getD, List.getElem?_append_right (by simp; omega)]; simp [hl]; rw [List.getElem?_replicate]; split <;> simp
      have hf : wr.frozen? ⟨w.heap.size, k, none⟩ = false := by simp [World.frozen?, hb]
      go_wp2_with (go_at_call 11; refine (meterGet _ _ _ (by omega) (by omega) _ hmr).mono ?_; rintro e w' ⟨rfl, rfl⟩)
      go_roundw
      case rel =>
        refine ⟨k + 1, by omega, by go_num, hmr.mod ((Mod.refl (· = w.heap.size) _).setCell _ _ (fun _ => rfl)) (Nat.ne_of_lt hm.lt), ?_, hmod.setCell _ _ (fun h => absurd h (by simp))⟩
        rw [heap_setCell_same hb, show (Value.int IntKind.i64 (l[k]?.getD 0)) = .int .i64 (l.getD k 0) by simp, ints_set]
        congr 3
        apply List.ext_getElem (by simp [hm.1]; omega)
        intro i h1 h2
        have hl := hm.1
        simp only [List.getElem_set, List.getElem_append, List.getElem_replicate, List.length_take, List.getElem_take]
        have : k < l.length := by omega
        simp [hl] at h1 h2 ⊢
        grind
      case measure => simp [intOf]; omega
    · go_wp2
      go_ret
      obtain rfl : k = 8 := by omega
      refine ⟨_, rfl, Nat.le_refl _, ?_, hmod⟩
      rw [hb, List.take_of_length_le (by rw [hm.1]; omega)]; simp
end Go.Proofs.Ytcofpkgoblfjdaa

/- sync.Once round the table's reckoning: one goroutine. -/
import Derived.Defers
import Derived.Laws.Pointers
import Derived.Laws.LoneSync
import Derived.RegionTactic
import Derived.RegionCalls
import Derived.ChangeAlike
import Derived.Test.YtdfahddpkkeldaaGreatShaReck
namespace Go.Proofs.YtdfahddpkkeldaaGreat
open Go.RowKit
theorem raceDisable (w : World) : (callFunc 151 #[]).run Tryz.prog w = .ok (.value (.tuple #[])) w := run_call_mark0 Tryz.func151 (by kernel_rfl) (by kernel_rfl) (by kernel_rfl) .disable (by kernel_rfl) w
theorem raceEnable (w : World) : (callFunc 153 #[]).run Tryz.prog w = .ok (.value (.tuple #[])) w := run_call_mark0 Tryz.func153 (by kernel_rfl) (by kernel_rfl) (by kernel_rfl) .enable (by kernel_rfl) w
theorem raceAcquire (a : Addr) (w : World) : (callFunc 154 #[.pointer (some a)]).run Tryz.prog w = .ok (.value (.tuple #[])) w := run_call_marked Tryz.func154 (by kernel_rfl) (by kernel_rfl) (by kernel_rfl) .acquire (by kernel_rfl) a w
theorem raceRelease (a : Addr) (w : World) : (callFunc 156 #[.pointer (some a)]).run Tryz.prog w = .ok (.value (.tuple #[])) w := run_call_marked Tryz.func156 (by kernel_rfl) (by kernel_rfl) (by kernel_rfl) .releaseMerge (by kernel_rfl) a w
theorem onceStore (a : Addr) (x : Value) (um : FrameMode) (w : World) (hc : w.cell? a = some x) (hz : w.frozen? a = false) :
  CallsD Tryz.prog 40 #[.pointer (some a), .bool true] um w fun e u' w' => u' = um ∧ (e = .returned (.tuple #[]) ∧ w' = w.drew.setCell a (.int .u32 1)) := by
 have hc' : w.drew.cell? a = some x := by go_simp
 have hz' : w.drew.frozen? a = false := by go_simp
 have hst := run_call_store (P := Tryz.prog) Tryz.func73 (by kernel_rfl) (by kernel_rfl) (by kernel_rfl) (by kernel_rfl) (k := .u32) (y := 1) hc' hz'
 go_enter_d Tryz.func40, Tryz.ntmps40
 go_wp2
 go_region_calls
 all_goals (go_end0; exact ⟨rfl, rfl⟩)
set_option maxRecDepth 100000 in
theorem mutexUnlock (a : Addr) (um : FrameMode) (w : World) (hc : w.cell? a = some (.int .i32 1)) (hz : w.frozen? a = false) :
  CallsD Tryz.prog 146 #[.pointer (some a)] um w fun e u' w' => u' = um ∧ (e = .returned (.tuple #[]) ∧ w' = w.setCell a (.int .i32 0)) := by
 have hd := raceDisable
 have he := raceEnable
 have hr := raceRelease
 have hadd := run_call_add (P := Tryz.prog) Tryz.func157 (by kernel_rfl) (by kernel_rfl) (by kernel_rfl) .i32 (by kernel_rfl) (y := -1) (s := 0) hc hz (by simp [go_sem]; rfl)
 have hcv := run_convert_to_unsafe (P := Tryz.prog) (src := 211) (dst := 215) Tryz.underlying211 Tryz.underlying215 (by kernel_rfl) hc
 go_enter_d Tryz.func146, Tryz.ntmps146
 go_wp2
 go_end0
 go_wp2
 go_end0
 exact ⟨rfl, rfl⟩
set_option maxRecDepth 100000 in
theorem mutexLock (a : Addr) (w : World) (hc : w.cell? a = some (.int .i32 0)) (hz : w.frozen? a = false) :
  Calls Tryz.prog 145 #[.pointer (some a)] w fun e w' => e = .returned (.tuple #[]) ∧ w' = w.setCell a (.int .i32 1) := by
 have hd := raceDisable
 have he := raceEnable
 have ha := raceAcquire
 have hcas := run_call_cas_hit (P := Tryz.prog) Tryz.func152 (by kernel_rfl) (by kernel_rfl) (by kernel_rfl) .i32 (by kernel_rfl) (y := 1) hc hz
 have hc' : (w.setCell a (.int .i32 1)).cell? a = some (.int .i32 1) := World.cell?_setCell_same w a _ hc
 have hcv := run_convert_to_unsafe (P := Tryz.prog) (src := 211) (dst := 215) Tryz.underlying211 Tryz.underlying215 (by kernel_rfl) hc'
 go_enter Tryz.func145, Tryz.ntmps145
 go_wp2
 first | go_end0 | (simp only [Exit.inBlock, Exit.then]; refine bodyPost_ret (results_none rfl _ _ _) rfl ?_) | refine bodyPost_ret (results_none rfl _ _ _) rfl ?_
 go_wp2
 go_end0
 exact ⟨rfl, rfl⟩
/-- a table, reckoned or not yet -/
def IsTab (w : World) (tb : Nat) : Prop := w.heap[tb]? = some (.cells (tabOf 1 0 kTab hTab) 84 (0, 0)) ∨ ∃ ks hs : List (BitVec 32), ks.length = 64 ∧ hs.length = 8 ∧ w.heap[tb]? = some (.cells (tabOf 0 0 ks hs) 84 (0, 0))
def IsFull (w : World) (tb : Nat) : Prop := w.heap[tb]? = some (.cells (tabOf 1 0 kTab hTab) 84 (0, 0))
theorem atomicLoad (a : Addr) (d : Int) (w : World) (hc : w.cell? a = some (.int .u32 d)) : Calls Tryz.prog 75 #[.pointer (some a)] w fun e w' => e = .returned (.bool (d != 0)) ∧ w = w' := by
 have hl := run_call_load (P := Tryz.prog) Tryz.func110 (by kernel_rfl) (by kernel_rfl) (by kernel_rfl) .u32 (by kernel_rfl) hc
 go_enter Tryz.func75, Tryz.ntmps75
 go_wp2
 go_ret
 exact ⟨rfl, rfl⟩
set_option maxRecDepth 100000 in
set_option maxHeartbeats 1600000 in
theorem onceSlow (tb : Nat) (ks hs : List (BitVec 32)) (hk : ks.length = 64) (hh : hs.length = 8) (w : World) (h : w.heap[tb]? = some (.cells (tabOf 0 0 ks hs) 84 (0, 0))) :
  Calls Tryz.prog 140 #[.pointer (some ⟨tb, 0, none⟩), .func (.func 135) #[.pointer (some ⟨tb, 0, none⟩)] #[]] w fun e w' => e = .returned (.tuple #[]) ∧ IsFull w' tb ∧ Mod (· = tb) w w' := by
 have h1 : (w.setCell ⟨tb, 1, none⟩ (.int .i32 1)).heap[tb]? = some (.cells (tabOf 0 1 ks hs) 84 (0, 0)) := by rw [heap_setCell_same h, tab_set1]
 have m1 : Mod (· = tb) w (w.setCell ⟨tb, 1, none⟩ (.int .i32 1)) := (Mod.refl _ w).setCell _ _ (fun _ => rfl)
 have c0 := (cell_of h1 0).trans (tab0 _ _ _ _)
 have hlk := mutexLock ⟨tb, 1, none⟩ w ((cell_of h 1).trans (tab1 _ _ _ _)) (free_of h 1)
 have HLK := Lib.hid hlk
 have H1 := Lib.hid h1
 have M1 := Lib.hid m1
 clear h h1 m1 hlk
 have hnot : ∀ (x : Bool) (w : World), (Op.unary .not (.bool x)).run Tryz.prog w = .ok (.bool (!x)) w := fun _ _ => rfl
 go_enter_defers Tryz.func140, Tryz.ntmps140
 go_wp2_with (first | (go_at_call 145; refine HLK.out.mono ?_; rintro e w' ⟨rfl, rfl⟩) | (go_at_call 75; refine (atomicLoad _ _ _ c0).mono ?_; rintro e w' ⟨rfl, rfl⟩))
 refine (shaReckon tb 0 1 ks hs hk hh _ H1.out).mono ?_
 rintro e w2 ⟨rfl, h2, m2⟩
 have h3 : (w2.drew.setCell ⟨tb, 0, none⟩ (.int .u32 1)).heap[tb]? = some (.cells (tabOf 1 1 kTab hTab) 84 (0, 0)) := by rw [heap_setCell_same (w := w2.drew) h2, tab_set0]
 have h4 : ((w2.drew.setCell ⟨tb, 0, none⟩ (.int .u32 1)).setCell ⟨tb, 1, none⟩ (.int .i32 0)).heap[tb]? = some (.cells (tabOf 1 0 kTab hTab) 84 (0, 0)) := by rw [heap_setCell_same h3, tab_set1]
 have m4 : Mod (· = tb) w ((w2.drew.setCell ⟨tb, 0, none⟩ (.int .u32 1)).setCell ⟨tb, 1, none⟩ (.int .i32 0)) := (((M1.out.trans m2 (fun _ _ h => h)).drew).setCell _ _ (fun _ => rfl)).setCell _ _ (fun _ => rfl)
 have hst := onceStore ⟨tb, 0, none⟩ (.int .u32 0) .returning w2 ((cell_of h2 0).trans (tab0 _ _ _ _)) (free_of h2 0)
 have hul := mutexUnlock ⟨tb, 1, none⟩ .returning _ ((cell_of h3 1).trans (tab1 _ _ _ _)) (free_of h3 1)
 have HST := Lib.hid hst
 have HUL := Lib.hid hul
 have H4 := Lib.hid h4
 have M4 := Lib.hid m4
 clear h2 h3 h4 m2 m4 hst hul
 go_wp2
 refine leaves_cons (f := 40) (args := #[.pointer (some ⟨tb, 0, none⟩), .bool true]) (by simp) (by simp [go_sem]) ?_
 refine HST.out.mono ?_
 rintro e u' w'' ⟨rfl, rfl, rfl⟩
 refine leaves_cons (f := 146) (args := #[.pointer (some ⟨tb, 1, none⟩)]) (by simp [settle]) (by simp [go_sem]) ?_
 refine HUL.out.mono ?_
 rintro e u' w'' ⟨rfl, rfl, rfl⟩
 have r1 := H4.out
 have r2 := M4.out
 simp [Leaves, settle, results, Tryz.results140, IsFull, r1, r2]
/-- the once's Do, whether it is done or not -/
theorem onceDo (tb : Nat) (w : World) (h : IsTab w tb) :
  Calls Tryz.prog 134 #[.pointer (some ⟨tb, 0, none⟩), .func (.func 135) #[.pointer (some ⟨tb, 0, none⟩)] #[]] w fun e w' => e = .returned (.tuple #[]) ∧ IsFull w' tb ∧ Mod (· = tb) w w' := by
 have hnot : ∀ (x : Bool) (w : World), (Op.unary .not (.bool x)).run Tryz.prog w = .ok (.bool (!x)) w := fun _ _ => rfl
 rcases h with h | ⟨ks, hs, hk, hh, h⟩
 ·have c0 := (cell_of h 0).trans (tab0 _ _ _ _)
  have H := Lib.hid h
  clear h
  go_enter Tryz.func134, Tryz.ntmps134
  go_wp2_with (go_at_call 75; refine (atomicLoad _ _ _ c0).mono ?_; rintro e w' ⟨rfl, rfl⟩)
  go_end0
  exact ⟨rfl, H.out, Mod.refl _ _⟩
 ·have c0 := (cell_of h 0).trans (tab0 _ _ _ _)
  have hsl := onceSlow tb ks hs hk hh w h
  have HSL := Lib.hid hsl
  clear h hsl
  go_enter Tryz.func134, Tryz.ntmps134
  go_wp2_with (first | (go_at_call 75; refine (atomicLoad _ _ _ c0).mono ?_; rintro e w' ⟨rfl, rfl⟩) | (go_at_call 140; refine HSL.out.mono ?_; rintro e w' ⟨rfl, hf, hm⟩))
  go_end0
  exact ⟨rfl, hf, hm⟩
theorem full_tab {w : World} {tb : Nat} (h : IsFull w tb) : IsTab w tb := .inl h
theorem IsTab.lt {w : World} {tb : Nat} (h : IsTab w tb) : tb < w.heap.size := by
 rcases h with h | ⟨_, _, _, _, h⟩
 ·exact heap_lt h
 ·exact heap_lt h
theorem IsTab.mod {S : Nat → Prop} {w w' : World} {tb : Nat} (h : IsTab w tb) (m : Mod S w w') (hs : ¬ S tb) : IsTab w' tb := by
 have hb := m.block tb h.lt hs
 rcases h with h | ⟨ks, hs, hk, hh, h⟩
 ·exact .inl (hb.trans h)
 ·exact .inr ⟨ks, hs, hk, hh, hb.trans h⟩
theorem shaWord (tb i : Nat) (hi : i < 64) (w : World) (h : IsTab w tb) :
  Calls Tryz.prog 137 #[.pointer (some ⟨tb, 0, none⟩), .int .i64 i] w fun e w' => e = .returned (.int .u32 (u (kTab.getD i 0))) ∧ IsFull w' tb ∧ Mod (· = tb) w w' := by
 have hdo := onceDo tb w h
 have HD := Lib.hid hdo
 have hmf : ∀ (fn : Fn) (first cap : Array Value) (w : World), (Instr.makeFunc fn first cap).run Tryz.prog w = .ok (.func fn first cap) w := fun _ _ _ _ => rfl
 clear hdo h
 go_enter Tryz.func137, Tryz.ntmps137
 go_wp2_with fail
 refine HD.out.mono ?_
 rintro e w2 ⟨rfl, hf, hm⟩
 have hc := (cell_of hf (3 + i)).trans (tab_k 1 0 kTab hTab i (by rw [kTab_length]; exact hi))
 have HF := Lib.hid hf
 clear hf
 go_wp2_with fail
 go_ret
 exact ⟨rfl, HF.out, hm⟩
theorem shaStart (tb i : Nat) (hi : i < 8) (w : World) (h : IsTab w tb) :
  Calls Tryz.prog 121 #[.pointer (some ⟨tb, 0, none⟩), .int .i64 i] w fun e w' => e = .returned (.int .u32 (u (hTab.getD i 0))) ∧ IsFull w' tb ∧ Mod (· = tb) w w' := by
 have hdo := onceDo tb w h
 have HD := Lib.hid hdo
 have hmf : ∀ (fn : Fn) (first cap : Array Value) (w : World), (Instr.makeFunc fn first cap).run Tryz.prog w = .ok (.func fn first cap) w := fun _ _ _ _ => rfl
 clear hdo h
 go_enter Tryz.func121, Tryz.ntmps121
 go_wp2_with fail
 refine HD.out.mono ?_
 rintro e w2 ⟨rfl, hf, hm⟩
 have hc := (cell_of hf (67 + i)).trans (tab_h 1 0 kTab hTab kTab_length i (by rw [hTab_length]; exact hi))
 have HF := Lib.hid hf
 clear hf
 go_wp2_with fail
 go_ret
 exact ⟨rfl, HF.out, hm⟩
end Go.Proofs.YtdfahddpkkeldaaGreat

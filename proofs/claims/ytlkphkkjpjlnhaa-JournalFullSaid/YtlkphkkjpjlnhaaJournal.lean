/- Package journal: the object; size, Room, Gen, read. -/
import Derived.Test.YtlkphkkjpjlnhaaFrameE
import Derived.Test.YtlkphkkjpjlnhaaTexts
import Derived.Test.YtlkphkkjpjlnhaaDiskB
import Derived.Deep.QuietTactic
import Derived.BigQuiet
namespace Go.Proofs.Ytlkphkkjpjlnhaa
open Go.RowKit
structure JS where
  down : Bool
  has : Bool
  half : Nat
  gen : Nat
  at_ : Nat
  pict : List UInt8
  recs : List (List UInt8)
/-- a journal at block jb over the disk db, by the table tb; all of its own blocks are in S -/
structure IsJ (S : Nat → Prop) (w : World) (jb tb db : Nat) (s : JS) : Prop where
  own : S jb
  ex : ∃ pp cp pr cr, w.heap[jb]? = some (.cells #[.pointer (some ⟨tb, 0, none⟩), .pointer (some ⟨db, 0, none⟩), .bool s.down, .int .i64 s.half, .int .i64 s.gen, .bool s.has, .slice pp s.pict.length cp, .slice pr s.recs.length cr, .int .i64 s.at_] 62 (0, 0)) ∧
    IsRow (fun k => S k ∧ k ≠ jb ∧ ¬ (Value.slice pr s.recs.length cr).ownBlock = some k) w (.slice pp s.pict.length cp) (bys s.pict) ∧ IsTexts (fun k => S k ∧ k ≠ jb) w (.slice pr s.recs.length cr) s.recs.length s.recs
theorem IsJ.mod {S T : Nat → Prop} {w w' : World} {jb tb db : Nat} {s : JS} (h : IsJ S w jb tb db s) (m : Mod T w w') (hs : ∀ k, k < w.heap.size → S k → ¬ T k) : IsJ S w' jb tb db s := by
  obtain ⟨pp, cp, pr, cr, h1, h2, h3⟩ := h.ex
  exact ⟨h.own, pp, cp, pr, cr, (m.block jb (heap_lt h1) (hs jb (heap_lt h1) h.own)).trans h1, h2.mod m (fun k hk h => hs k hk h.1), h3.mod m (fun k hk h => hs k hk h.1)⟩
theorem IsJ.modNil {S : Nat → Prop} {w w' : World} {jb tb db : Nat} {s : JS} (h : IsJ S w jb tb db s) (m : Mod nil w w') : IsJ S w' jb tb db s := h.mod m (fun _ _ _ f => f)
theorem IsJ.mono {S T : Nat → Prop} {w : World} {jb tb db : Nat} {s : JS} (h : IsJ S w jb tb db s) (hs : ∀ k, k < w.heap.size → S k → T k) : IsJ T w jb tb db s := by
  obtain ⟨pp, cp, pr, cr, h1, h2, h3⟩ := h.ex
  exact ⟨hs jb (heap_lt h1) h.own, pp, cp, pr, cr, h1, h2.mono (fun k hk h => ⟨hs k hk h.1, h.2⟩), h3.mono (fun k hk h => ⟨hs k hk h.1, h.2⟩)⟩
theorem IsJ.lt {S : Nat → Prop} {w : World} {jb tb db : Nat} {s : JS} (h : IsJ S w jb tb db s) : jb < w.heap.size := by
  obtain ⟨pp, cp, pr, cr, h1, h2, h3⟩ := h.ex
  exact heap_lt h1
theorem jSize (jb db bl bm : Nat) (C : Nat → Prop) (d : DS) (w : World) (hc : w.cell? ⟨jb, 1, none⟩ = some (.pointer (some ⟨db, 0, none⟩))) (hd : IsDisk w db bl bm C d) :
    Calls Try.prog 24 #[.pointer (some ⟨jb, 0, none⟩)] w fun e w' => e = .returned (.int .i64 (d.lasts.length / 2 : Nat)) ∧ w = w' := by
  have hlen := diskLen db bl bm C d w hd
  obtain ⟨N, hN⟩ : ∃ N, d.lasts.length = N := ⟨_, rfl⟩
  obtain ⟨M, hM⟩ : ∃ M, N / 2 = M := ⟨_, rfl⟩
  have hNb : N ≤ 8192 := by have := hd.room; omega
  rw [hN] at hlen ⊢
  rw [hM]
  have m1 : (N : Int) / 2 = (M : Int) := by omega
  have HD := Lib.hid hlen
  clear hd hN hM hlen
  go_enter Try.func24, Try.ntmps24
  go_wp2_with fail
  refine HD.out.mono ?_
  rintro e w' ⟨rfl, rfl⟩
  go_wp2_with fail
  go_ret
  exact ⟨rfl, rfl⟩
theorem jRoom (S : Nat → Prop) (jb tb db bl bm : Nat) (C : Nat → Prop) (d : DS) (s : JS) (w : World) (hj : IsJ S w jb tb db s) (hd : IsDisk w db bl bm C d) (ha : s.at_ ≤ 1000000) :
    Calls Try.prog 14 #[.pointer (some ⟨jb, 0, none⟩)] w fun e w' => e = .returned (.int .i64 ((d.lasts.length / 2 : Nat) - (s.at_ : Int))) ∧ ∃ n, w' = w.drewN n := by
  obtain ⟨pp, cp, pr, cr, h1, h2, h3⟩ := hj.ex
  have c1 := cell_of h1 1
  have c8 := cell_of h1 8
  simp only [List.getElem?_toArray, List.getElem?_cons_zero, List.getElem?_cons_succ] at c1 c8
  obtain ⟨N, hN⟩ : ∃ N, d.lasts.length / 2 = N := ⟨_, rfl⟩
  have hNb : N ≤ 4096 := by have := hd.room; omega
  have HSZ : Hid (∀ n, Calls Try.prog 24 #[.pointer (some ⟨jb, 0, none⟩)] (w.drewN n) fun e w' => e = .returned (.int .i64 N) ∧ w' = w.drewN n) := Lib.hid (fun n => by
    rw [← hN]
    exact (jSize jb db bl bm C d (w.drewN n) c1 (hd.modNil ((Mod.refl nil w).drewN n))).mono (fun _ _ ⟨h1, h2⟩ => ⟨h1, h2.symm⟩))
  obtain ⟨A, hA⟩ : ∃ A, s.at_ = A := ⟨_, rfl⟩
  rw [hA] at c8 ha ⊢
  rw [hN]
  have hw : IntKind.i64.wrap ((N : Int) - (A : Int)) = (N : Int) - (A : Int) := by rw [IntKind.wrap_i64]; omega
  clear h1 h2 h3 hd hN hA hj
  go_enter Try.func14, Try.ntmps14
  go_wp2_with fail
  go_quiet (first | (go_at_call 24; exact Calls.quiet_of_same (HSZ.out _)))
  go_wp2_with fail
  go_ret
  exact ⟨rfl, _, rfl⟩
theorem jGen (S : Nat → Prop) (jb tb db : Nat) (s : JS) (w : World) (hj : IsJ S w jb tb db s) :
    Calls Try.prog 15 #[.pointer (some ⟨jb, 0, none⟩)] w fun e w' => e = .returned (.int .i64 s.gen) ∧ w = w' := by
  obtain ⟨pp, cp, pr, cr, h1, h2, h3⟩ := hj.ex
  have c4 := cell_of h1 4
  simp only [List.getElem?_toArray, List.getElem?_cons_zero, List.getElem?_cons_succ] at c4
  clear h1 h2 h3 hj
  go_enter Try.func15, Try.ntmps15
  go_wp2_with fail
  go_ret
  exact ⟨rfl, rfl⟩
theorem read_ok (d : DS) (i : Nat) (hd : d.down = false) (hi : i < d.lasts.length) : (d.read (i : Int)).2 = 0 := by
  unfold DS.read DS.sector
  rw [hd]
  simp only [Bool.false_eq_true, ↓reduceIte]
  rw [if_neg (by omega)]
  split <;> rfl
/-- the bytes of the first so many sectors from one on -/
def sectorsAt (d : DS) (base : Nat) : Nat → List UInt8
  | 0 => []
  | i + 1 => sectorsAt d base i ++ (d.read ((base + i : Nat) : Int)).1
theorem sectorsAt_length (d : DS) (base : Nat) (n : Nat) (h : ∀ i, i < n → (d.read ((base + i : Nat) : Int)).1.length = 64) : (sectorsAt d base n).length = 64 * n := by
  induction n with
  | zero => rfl
  | succ n ih => rw [sectorsAt, List.length_append, ih (fun i hi => h i (by omega)), h n (by omega)]; omega
theorem read_64 (w : World) (db bl bm : Nat) (C : Nat → Prop) (d : DS) (h : IsDisk w db bl bm C d) (i : Nat) (hd : d.down = false) (hi : i < d.lasts.length) : (d.read (i : Int)).1.length = 64 := by
  unfold DS.read DS.sector
  rw [hd]
  simp only [Bool.false_eq_true, ↓reduceIte]
  rw [if_neg (by omega)]
  split
  · rename_i p hp
    have hm := List.mem_of_find?_eq_some hp
    obtain ⟨vm, _, h2⟩ := h.pend
    obtain ⟨j, hj, rfl⟩ := List.getElem_of_mem hm
    exact (h2.2 j (by rw [h2.1]; exact hj) hj).2.2
  · obtain ⟨vl, _, h2, h3⟩ := h.lasts
    have := (h3 i (by omega) hi).2
    simp only [Int.toNat_natCast]
    rw [List.getD_eq_getElem?_getD, List.getElem?_eq_getElem hi]
    exact this
end Go.Proofs.Ytlkphkkjpjlnhaa

/- The statements of package trade: first. -/
import Derived.Test.YtdpaklpaanojpaaTradeD
import Derived.Test.YtdpaklpaanojpaaIds
import Derived.Test.YtdpaklpaanojpaaSame
namespace Go.Proofs.Ytdpaklpaanojpaa
open Go.RowKit

theorem ids_mem (l : List Said) (x : Int) : x ∈ idsOf l ↔ x ∈ l.map (·.t.id) := by
  unfold idsOf
  rw [compact_mem, (asc_perm _).mem_iff]
theorem ids_strict (l : List Said) : (idsOf l).Pairwise (· < ·) := compact_strict _ (asc_sorted _)
theorem ids_one (l : List Said) (i : Int) (h : ∀ x ∈ l, x.t.id = i) (hne : l ≠ []) : idsOf l = [i] := by
  refine strict_eq (fun x => ?_) (ids_strict l) (by simp)
  rw [ids_mem]
  constructor
  · intro hx
    obtain ⟨y, hy, rfl⟩ := List.mem_map.1 hx
    simp [h y hy]
  · intro hx
    obtain rfl : x = i := by simpa using hx
    cases l with
    | nil => exact absurd rfl hne
    | cons y l => exact List.mem_map.2 ⟨y, by simp, h y (by simp)⟩
def tFirst : T7 := ⟨0, 0, 1, 0, 5, 0, 1⟩
theorem put1 : putR 2 1 1 [] 0 tFirst = ([⟨0, tFirst⟩], 0) := by simp [putR, mayT, amongB, amount, tFirst]
theorem put2 : putR 2 1 1 [⟨0, tFirst⟩] 1 tFirst = ([⟨0, tFirst⟩, ⟨1, tFirst⟩], 0) := by simp [putR, mayT, amongB, amount, tFirst]
theorem put3 : putR 2 1 1 [⟨0, tFirst⟩, ⟨1, tFirst⟩] 1 tFirst = ([⟨0, tFirst⟩, ⟨1, tFirst⟩], 15) := by simp [putR, mayT, amongB, amount, tFirst]
theorem pairs1 (t : T7) (a : Int) : pairsTo [⟨a, t⟩] 1 = [] := by simp [pairsTo, bothB]
theorem pairs2 (t u : T7) (a b : Int) (hab : a ≠ b) (hid : t.id = u.id) : pairsTo [⟨a, t⟩, ⟨b, u⟩] 2 = if t = u then [(t.id, t)] else [] := by
  by_cases h : t = u
  · subst h
    simp [pairsTo, bothB, hab, Ne.symm hab]
  · simp [pairsTo, bothB, hab, Ne.symm hab, h, Ne.symm h]
theorem matched1 (t : T7) (a : Int) : matchedOf [⟨a, t⟩] = [] ∧ openOf [⟨a, t⟩] = [t.id] := by
  have hi : idsOf [⟨a, t⟩] = [t.id] := ids_one _ _ (by simp) (by simp)
  unfold matchedOf openOf
  rw [hi, show ([⟨a, t⟩] : List Said).length = 1 from rfl, pairs1]
  exact ⟨rfl, rfl⟩
theorem matched2 (t u : T7) (a b : Int) (hab : a ≠ b) (hid : t.id = u.id) : matchedOf [⟨a, t⟩, ⟨b, u⟩] = (if t = u then [t] else []) ∧ openOf [⟨a, t⟩, ⟨b, u⟩] = (if t = u then [] else [t.id]) := by
  have hi : idsOf [⟨a, t⟩, ⟨b, u⟩] = [t.id] := ids_one _ _ (by simp [hid]) (by simp)
  unfold matchedOf openOf
  rw [hi, show ([⟨a, t⟩, ⟨b, u⟩] : List Said).length = 2 from rfl, pairs2 t u a b hab hid]
  split <;> simp [tradeAt]
theorem cells_slice {S : Nat → Prop} {w : World} {v : Value} {n : Nat} {xs : List Value} (h : IsCells S w v n xs) : ∃ p c, v = .slice p n c := by
  obtain ⟨p, c, rfl, _⟩ := h
  exact ⟨p, c, rfl⟩
theorem row_slice {S : Nat → Prop} {w : World} {v : Value} {xs : List Value} (h : IsRow S w v xs) : ∃ p c, v = .slice p xs.length c := by
  obtain ⟨p, c, rfl, _⟩ := h
  exact ⟨p, c, rfl⟩
/-- a desk as it goes on from world z: its object in block b, all else of z stands -/
structure At (z w : World) (b : Nat) (p c a : Int) (l : List Said) : Prop where
  ex : ∃ S, IsDesk w b S p c a l ∧ ∀ k, S k → z.heap.size ≤ k
  mod : Mod (· = b) z w
theorem At.start {z : World} {b : Nat} {p c a : Int} (h : IsDesk z b (fun _ => False) p c a []) : At z z b p c a [] := ⟨⟨_, h, fun _ h => h.elim⟩, Mod.refl _ _⟩
theorem At.modNil {z w w' : World} {b : Nat} {p c a : Int} {l : List Said} (h : At z w b p c a l) (m : Mod nil w w') : At z w' b p c a l := by
  obtain ⟨S, h1, h2⟩ := h.ex
  exact ⟨⟨S, h1.modNil m, h2⟩, h.mod.thenNil m⟩
theorem At.keep {z w : World} {b g : Nat} {p c a : Int} {l : List Said} {o : Obj} (h : At z w b p c a l) (hg : z.heap[g]? = some o) (hb : g ≠ b) : w.heap[g]? = some o := (h.mod.block g (heap_lt hg) hb).trans hg
theorem atPut {z w : World} {b : Nat} {p c a : Int} {l : List Said} (h : At z w b p c a l) (hl : l.length ≤ 400) (who : Int) (t : T7) (l' : List Said) (r : Int) (hr : putR p c a l who t = (l', r)) :
    Calls Try.prog 9 #[.pointer (some ⟨b, 0, none⟩), .int .i64 who, t.val] w fun e w' => e = .returned (.int .i64 r) ∧ At z w' b p c a l' ∧ w.heap.size ≤ w'.heap.size := by
  obtain ⟨S, h1, h2⟩ := h.ex
  have := tradePut b S p c a l who t w h1 hl
  rw [hr] at this
  refine this.mono ?_
  rintro e w' ⟨rfl, ⟨S', h3, h4⟩, h5⟩
  refine ⟨rfl, ⟨⟨S', h3, fun k hk => (h4 k hk).elim (h2 k) (fun h6 => Nat.le_trans h.mod.size h6)⟩, h.mod.trans h5 (fun i hi hs => hs.elim id (fun hs => absurd (h2 i hs) (by omega)))⟩, h5.size⟩
theorem atMatched {z w : World} {b : Nat} {p c a : Int} {l : List Said} (h : At z w b p c a l) (hl : l.length ≤ 400) (m : List T7) (hm : matchedOf l = m) :
    Calls Try.prog 10 #[.pointer (some ⟨b, 0, none⟩)] w fun e w' => ∃ v, e = .returned v ∧ IsCells (fun k => w.heap.size ≤ k) w' v m.length (trades m) ∧ At z w' b p c a l ∧ Mod nil w w' := by
  obtain ⟨S, h1, h2⟩ := h.ex
  subst hm
  refine (tradeMatched b S p c a l w h1 hl).mono ?_
  rintro e w' ⟨v, rfl, h3, h4⟩
  exact ⟨v, rfl, h3, h.modNil h4, h4⟩
theorem atOpen {z w : World} {b : Nat} {p c a : Int} {l : List Said} (h : At z w b p c a l) (hl : l.length ≤ 400) (m : List Int) (hm : openOf l = m) :
    Calls Try.prog 11 #[.pointer (some ⟨b, 0, none⟩)] w fun e w' => ∃ v, e = .returned v ∧ IsRow (fun k => w.heap.size ≤ k) w' v (m.map (Value.int .i64)) ∧ At z w' b p c a l ∧ Mod nil w w' := by
  obtain ⟨S, h1, h2⟩ := h.ex
  subst hm
  refine (tradeOpen b S p c a l w h1 hl).mono ?_
  rintro e w' ⟨v, rfl, h3, h4⟩
  exact ⟨v, rfl, h3, h.modNil h4, h4⟩
theorem atLen {z w : World} {b : Nat} {p c a : Int} {l : List Said} (h : At z w b p c a l) (n : Nat) (hn : l.length = n) :
    Calls Try.prog 17 #[.pointer (some ⟨b, 0, none⟩)] w fun e w' => e = .returned (.int .i64 n) ∧ w = w' := by
  obtain ⟨S, h1, h2⟩ := h.ex
  subst hn
  exact tradeLen b S p c a l w h1
theorem atPutFrom {z y w : World} {b : Nat} {p c a : Int} {l : List Said} (h : At z y b p c a l) (m : Mod nil y w) (hl : l.length ≤ 400) (who : Int) (t : T7) (l' : List Said) (r : Int) (hr : putR p c a l who t = (l', r)) :
    Calls Try.prog 9 #[.pointer (some ⟨b, 0, none⟩), .int .i64 who, t.val] w fun e w' => e = .returned (.int .i64 r) ∧ At z w' b p c a l' ∧ Mod (fun k => k = b ∨ (z.heap.size ≤ k ∧ k < y.heap.size)) w w' := by
  obtain ⟨S, h1, h2⟩ := h.ex
  have := tradePut b S p c a l who t w (h1.modNil m) hl
  rw [hr] at this
  refine this.mono ?_
  rintro e w' ⟨rfl, ⟨S', h3, h4⟩, h5⟩
  have hsz := m.size
  have hzs := h.mod.size
  refine ⟨rfl, ⟨⟨S', h3, fun k hk => (h4 k hk).elim (h2 k) (fun h6 => by omega)⟩, (h.mod.thenNil m).trans h5 (fun i hi hs => hs.elim id (fun hs => absurd (h2 i hs) (by omega)))⟩, h5.mono (fun k _ hk => hk.elim .inl (fun hk => .inr ⟨h2 k hk, h1.top k hk⟩))⟩
theorem cells_all {S : Nat → Prop} {w : World} {v : Value} {n : Nat} {xs : List Value} (h : IsCells S w v n xs) (hx : 0 < xs.length) : ∃ b o c, v = .slice (some ⟨b, o, none⟩) n c ∧ S b ∧ b < w.heap.size ∧ ∀ k, k < xs.length → w.cell? ⟨b, o + k, none⟩ = some (xs.getD k undef) := by
  obtain ⟨p, c, rfl, hall⟩ := h
  obtain ⟨b, o, hp, hS, hb, _⟩ := hall 0 hx
  subst hp
  refine ⟨b, o, c, rfl, hS, hb, fun k hk => ?_⟩
  obtain ⟨b', o', hp', _, _, hc⟩ := hall k hk
  simp only [Option.some.injEq, Addr.mk.injEq] at hp'
  obtain ⟨rfl, rfl, _⟩ := hp'
  exact hc
set_option maxRecDepth 100000 in
set_option maxHeartbeats 2000000 in
theorem tradeFirst (w : World) : Calls Try.prog 7 #[] w fun e w' => e = .returned (.bool true) ∧ Mod nil w w' := by
  go_enter Try.func7, Try.ntmps7
  go_wp2_with fail
  refine (tradeNew 2 1 1 w (by unfold newOk; omega)).mono ?_
  rintro e w1 ⟨b, rfl, hd1, hb, hm1⟩
  go_wp2_with fail
  have ht2 : (w1.alloc (.cells #[.int .i64 0, .int .i64 0, .int .i64 1, .int .i64 0, .int .i64 5, .int .i64 0, .int .i64 1] 31)).heap[w1.heap.size]? = some (.cells #[.int .i64 0, .int .i64 0, .int .i64 1, .int .i64 0, .int .i64 5, .int .i64 0, .int .i64 1] 31 (0, 0)) := heap_alloc_new _ _
  have hma : Mod nil w1 (w1.alloc (.cells #[.int .i64 0, .int .i64 0, .int .i64 1, .int .i64 0, .int .i64 5, .int .i64 0, .int .i64 1] 31)) := (Mod.refl nil w1).alloc _
  have hbg : b < w1.heap.size := heap_lt hd1.ex.choose_spec.1
  have HA := At.start (hd1.modNil hma)
  have HM2 := Lib.hid (hm1.thenNil hma)
  have HB := Lib.hid hb
  generalize w1.heap.size = g at ht2 hbg ⊢
  have hgb : g ≠ b := by omega
  have HT2 := Lib.hid ht2
  generalize (w1.alloc (.cells #[.int .i64 0, .int .i64 0, .int .i64 1, .int .i64 0, .int .i64 5, .int .i64 0, .int .i64 1] 31)) = z at HM2 HT2 HA ⊢
  clear hm1 hma ht2 hd1 hbg hb
  have HGB := Lib.hid hgb
  clear hgb
  refine (atPut HA (by simp) 0 tFirst _ _ put1).mono ?_
  rintro e w3 ⟨rfl, A3, -⟩
  clear HA
  go_wp2_with fail
  refine (atMatched A3 (by simp) _ (matched1 _ _).1).mono ?_
  rintro e w4 ⟨v4, rfl, hc4, A4, -⟩
  obtain ⟨p4, c4, rfl⟩ := cells_slice hc4
  clear hc4 A3
  go_wp2_with fail
  refine (atOpen A4 (by simp) _ (matched1 _ _).2).mono ?_
  rintro e w5 ⟨v5, rfl, hc5, A5, -⟩
  have hm6 : Mod nil w5 (w5.alloc (.cells #[Value.int IntKind.i64 0] 3)) := (Mod.refl nil w5).alloc _
  have hc6 := hc5.modNil hm6
  have A6 := A5.modNil hm6
  have hr6 : IsRow (· = w5.heap.size) (w5.alloc (.cells #[Value.int IntKind.i64 0] 3)) (.slice (some ⟨w5.heap.size, 0, none⟩) 1 1) (([0] : List Int).map (Value.int .i64)) := cells_one_at w5 3 _ _ rfl
  clear A4 A5 hm6 hc5
  go_wp2_with fail
  refine (refInts _ _ _ _ [tFirst.id] [0] _ hc6 hr6 (by simp)).mono ?_
  rintro e w7 ⟨rfl, n7, hw7⟩
  have A7 := A6.modNil (show Mod nil _ w7 from hw7 ▸ (Mod.refl nil _).drewN n7)
  clear A6 hc6 hr6 hw7
  have ht7 := A7.keep HT2.out HGB.out
  have q0 := cell_of ht7 0
  have q1 := cell_of ht7 1
  have q2 := cell_of ht7 2
  have q3 := cell_of ht7 3
  have q4 := cell_of ht7 4
  have q5 := cell_of ht7 5
  have q6 := cell_of ht7 6
  clear ht7
  rw [show decide ([tFirst.id] = [0]) = true from rfl]
  go_wp2_with fail
  refine (atPut A7 (by simp) 1 tFirst _ _ put2).mono ?_
  rintro e w8 ⟨rfl, A8, -⟩
  clear A7 q0 q1 q2 q3 q4 q5 q6
  go_wp2_with fail
  refine (atMatched A8 (by simp) _ ((matched2 tFirst tFirst 0 1 (by omega) rfl).1.trans (if_pos rfl))).mono ?_
  rintro e w9 ⟨v9, rfl, hc9, A9, -⟩
  obtain ⟨p9, c9, rfl⟩ := cells_slice hc9
  clear hc9 A8
  have ht7 := A9.keep HT2.out HGB.out
  have q0 := cell_of ht7 0
  have q1 := cell_of ht7 1
  have q2 := cell_of ht7 2
  have q3 := cell_of ht7 3
  have q4 := cell_of ht7 4
  have q5 := cell_of ht7 5
  have q6 := cell_of ht7 6
  clear ht7
  go_wp2_with fail
  refine (atPut A9 (by simp) 1 tFirst _ _ put3).mono ?_
  rintro e w10 ⟨rfl, A10, -⟩
  clear A9 q0 q1 q2 q3 q4 q5 q6
  go_wp2_with fail
  go_ret
  exact ⟨rfl, HM2.out.new A10.mod (fun i hi => hi ▸ HB.out)⟩
end Go.Proofs.Ytdpaklpaanojpaa

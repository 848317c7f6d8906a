/- Rows and vectors: fronts, capacities. -/
import Derived.Test.YtjilbnpehgigjaaGreatRdB
import Derived.Laws.Tables
import Derived.Test.YtjilbnpehgigjaaGreatFrame
import Derived.Laws.CopyOwn
import Derived.Laws.IdiomStrings
import Derived.Lib.BufferRead
namespace Go.Proofs.YtjilbnpehgigjaaGreat
open Go.RowKit
theorem vecCap {S : Nat → Prop} {w : World} {E : TypeId} {sz n : Nat} {v : Value} {xs : List Value} (h : IsVec S w E sz v n xs) : ∃ p c, v = .slice p n c ∧ n ≤ c ∧ c ≤ maxLen := by
  rcases h.1.2 with ⟨rfl, rfl⟩ | ⟨g, cap, cur, rfl, _, _, h, hm, _⟩
  · exact ⟨_, _, rfl, Nat.le_refl _, by unfold maxLen; omega⟩
  · exact ⟨_, _, rfl, h, hm⟩
theorem bysTake (l : List UInt8) (n : Nat) : bys (l.take n) = (bys l).take n := by simp [bys, List.map_take]
theorem rowFront {S : Nat → Prop} {w : World} {p : Option Addr} {n c : Nat} {xs : List Value} (h : IsRow S w (.slice p n c) xs) (k : Nat) (hk : k ≤ xs.length) : IsRow S w (.slice p k c) (xs.take k) := by
  obtain ⟨p', c', hv, hc⟩ := h
  simp only [Value.slice.injEq] at hv
  obtain ⟨rfl, -, rfl⟩ := hv
  refine ⟨p, c, by rw [List.length_take, Nat.min_eq_left hk], fun i hi => ?_⟩
  rw [List.length_take] at hi
  obtain ⟨b, off, h1, h2, h3, h4⟩ := hc i (by omega)
  refine ⟨b, off, h1, h2, h3, ?_⟩
  rw [h4, List.getD_eq_getElem?_getD, List.getD_eq_getElem?_getD, List.getElem?_take_of_lt (by omega)]
/-- a block of an owned vector -/
theorem vecBlock {S : Nat → Prop} {w : World} {E : TypeId} {sz n : Nat} {p : Option Addr} {c : Nat} {xs : List Value} (h : IsVec S w E sz (.slice p n c) n xs) (hn : 0 < n) :
    ∃ b, p = some ⟨b, 0, none⟩ ∧ S b ∧ b < w.heap.size := by
  obtain ⟨⟨hl, h1⟩, h2⟩ := h
  rcases h1 with ⟨h, rfl⟩ | ⟨g, cap, cur, h, hg, hh, _⟩
  · omega
  · simp only [Value.slice.injEq] at h
    obtain ⟨rfl, -, rfl⟩ := h
    exact ⟨g, rfl, h2 g rfl, heap_lt hh⟩
theorem Mod.rowSet {S : Nat → Prop} {a w : World} (h : Mod S a w) (g : Nat) (cs : Array Value) (hg : g < a.heap.size → S g) : Mod S a (w.setRow g cs) :=
  ⟨h.os, h.tape, h.output, by simpa [World.setRow] using h.size, fun k hk hs => (setRow_other w g k cs (fun e => hs (e ▸ hg (e ▸ hk)))).trans (h.block k hk hs)⟩
theorem vec_set {S : Nat → Prop} {w : World} {E : TypeId} {v : Value} {n : Nat} {xs : List Value} (h : IsVec S w E 1 v n xs) (i : Nat) (hi : i < n) :
    ∃ g c, v = .slice (some ⟨g, 0, none⟩) n c ∧ S g ∧ g < w.heap.size ∧ w.cell? ⟨g, i, none⟩ = some (xs.getD i undef) ∧ w.frozen? ⟨g, i, none⟩ = false ∧ ∀ u : Value, u.oneCell' = true → IsVec S (w.setCell ⟨g, i, none⟩ u) E 1 v n (xs.set i u) := by
  obtain ⟨p, c, hv, hc⟩ := h.row
  have hl := h.len
  obtain ⟨b, off, hp, hS, hb, hcell⟩ := hc i (by omega)
  obtain ⟨⟨hlen, h1⟩, h2⟩ := h
  rcases h1 with ⟨_, h0⟩ | ⟨g, cap, cur, rfl, hg, hh, hn, hm, hs, ht⟩
  · omega
  · simp only [Value.slice.injEq] at hv
    obtain ⟨rfl, -, rfl⟩ := hv
    simp only [Option.some.injEq, Addr.mk.injEq, and_true] at hp
    obtain ⟨rfl, rfl⟩ := hp
    rw [Nat.zero_add] at hcell
    refine ⟨g, cap, rfl, hS, hb, hcell, free_of hh i, fun u hu => ⟨⟨by simpa using hlen, .inr ⟨g, cap, cur.setIfInBounds i u, rfl, hg, heap_setCell_same hh u, hn, hm, by simpa using hs, ?_⟩⟩, h2⟩⟩
    rw [← ht]
    simp [List.take_set]
end Go.Proofs.YtjilbnpehgigjaaGreat

/- Frames as sectors: plain lists of bytes. -/
namespace Go.Proofs.YtjilbnpehgigjaaGreat
open Go.RowKit
/-- so many bytes, filled up with zeros -/
def fillTo (n : Nat) (l : List UInt8) : List UInt8 := l ++ List.replicate (n - l.length) 0
theorem fillTo_length (n : Nat) (l : List UInt8) (h : l.length ≤ n) : (fillTo n l).length = n := by simp [fillTo]; omega
/-- the sector number i of a text, whatever its number, marked with 2 -/
def sect2 (t : List UInt8) (i : Nat) : List UInt8 := 2 :: fillTo 63 ((t.drop (63 * i)).take 63)
theorem sect2_length (t : List UInt8) (i : Nat) : (sect2 t i).length = 64 := by
  simp only [sect2, List.length_cons]
  rw [fillTo_length _ _ (by simp; omega)]
/-- the first so many sectors -/
def sectsTo (t : List UInt8) : Nat → List UInt8
  | 0 => []
  | j + 1 => sectsTo t j ++ sect2 t j
theorem sectsTo_length (t : List UInt8) (j : Nat) : (sectsTo t j).length = 64 * j := by
  induction j with
  | zero => rfl
  | succ j ih => rw [sectsTo, List.length_append, ih, sect2_length]; omega
/-- what Put lays -/
def putF (kind gen seq : Nat) (body : List UInt8) : List UInt8 := (sectsTo (textF kind gen seq body) (sectorsF body.length)).set 0 1
theorem putF_length (kind gen seq : Nat) (body : List UInt8) : (putF kind gen seq body).length = 64 * sectorsF body.length := by rw [putF, List.length_set, sectsTo_length]
/-- what lies in memory behind j rounds -/
def outAt (t : List UInt8) (S j : Nat) : List UInt8 := sectsTo t j ++ List.replicate (64 * (S - j)) 0
theorem outAt_length (t : List UInt8) (S j : Nat) (h : j ≤ S) : (outAt t S j).length = 64 * S := by rw [outAt, List.length_append, sectsTo_length, List.length_replicate]; omega
theorem outAt_zero (t : List UInt8) (S : Nat) : outAt t S 0 = List.replicate (64 * S) 0 := rfl
theorem outAt_last (t : List UInt8) (S : Nat) : outAt t S S = sectsTo t S := by simp [outAt]
theorem outAt_succ (t : List UInt8) (S j : Nat) (h : j < S) : splice ((outAt t S j).set (64 * j) 2) (64 * j + 1) ((t.drop (63 * j)).take 63) = outAt t S (j + 1) := by
  have hP := sectsTo_length t j
  obtain ⟨P, hPe⟩ : ∃ P, sectsTo t j = P := ⟨_, rfl⟩
  obtain ⟨C, hC⟩ : ∃ C, (t.drop (63 * j)).take 63 = C := ⟨_, rfl⟩
  have hCl : C.length ≤ 63 := by rw [← hC, List.length_take]; omega
  have e : outAt t S (j + 1) = P ++ (2 :: (C ++ List.replicate (63 - C.length) 0)) ++ List.replicate (64 * (S - (j + 1))) 0 := by
    rw [outAt, sectsTo, hPe, sect2, hC]; rfl
  rw [e, hC, outAt, hPe]
  rw [hPe] at hP
  clear e hC hPe
  obtain ⟨m, hm⟩ : ∃ m, 64 * (S - j) = m + 64 := ⟨64 * (S - j) - 64, by omega⟩
  have hm2 : 64 * (S - (j + 1)) = m := by omega
  rw [hm, hm2]
  have h1 : (P ++ List.replicate (m + 64) (0 : UInt8)).set (64 * j) 2 = P ++ 2 :: List.replicate (m + 63) 0 := by
    rw [← hP, List.set_append_right _ _ (Nat.le_refl _), Nat.sub_self]; rfl
  rw [h1]
  unfold splice
  have h2 : (P ++ 2 :: List.replicate (m + 63) (0 : UInt8)).take (64 * j + 1) = P ++ [2] := by
    rw [← hP, List.take_length_add_append]; rfl
  have h3 : (P ++ 2 :: List.replicate (m + 63) (0 : UInt8)).drop (64 * j + 1 + C.length) = List.replicate (63 - C.length + m) 0 := by
    rw [← hP, Nat.add_assoc, List.drop_length_add_append, Nat.add_comm 1 C.length, List.drop_succ_cons, List.drop_replicate]
    congr 1
    omega
  rw [h2, h3, ← List.replicate_append_replicate]
  simp
theorem bys_set (l : List UInt8) (i : Nat) (b : UInt8) : (bys l).set i (.int .u8 b.toNat) = bys (l.set i b) := by simp [bys, List.map_set]
theorem bys_splice (l c : List UInt8) (o : Nat) : splice (bys l) o (bys c) = bys (splice l o c) := by simp [splice, bys, List.map_take, List.map_drop]
theorem bys_replicate (n : Nat) : bys (List.replicate n 0) = List.replicate n (.int .u8 0) := by simp [bys]
theorem Mod.ofBelowAt {B : Nat} {w w' : World} (h : Below B w w') : Mod (fun k => B ≤ k) w w' := ⟨h.os, h.tape, h.output, h.size, fun k _ hk => h.block k (by omega)⟩
end Go.Proofs.YtjilbnpehgigjaaGreat

/- Slices of byte slices that the program made itself. -/
namespace Go.Proofs.YtjilbnpehgigjaaGreat
open Go.RowKit
/-- both lists, one by one -/
def Each2 {α β : Type} (R : α → β → Prop) : List α → List β → Prop
  | [], [] => True
  | a :: l, b :: m => R a b ∧ Each2 R l m
  | _, _ => False
theorem each2_length {α β : Type} {R : α → β → Prop} : ∀ {l : List α} {m : List β}, Each2 R l m → l.length = m.length
  | [], [], _ => rfl
  | _ :: _, _ :: _, h => by simp [each2_length h.2]
  | [], _ :: _, h => h.elim
  | _ :: _, [], h => h.elim
theorem each2_imp {α β : Type} {R R' : α → β → Prop} (hi : ∀ a b, R a b → R' a b) : ∀ {l : List α} {m : List β}, Each2 R l m → Each2 R' l m
  | [], [], _ => trivial
  | _ :: _, _ :: _, h => ⟨hi _ _ h.1, each2_imp hi h.2⟩
  | [], _ :: _, h => h.elim
  | _ :: _, [], h => h.elim
theorem each2_snoc {α β : Type} {R : α → β → Prop} {a : α} {b : β} (hab : R a b) : ∀ {l : List α} {m : List β}, Each2 R l m → Each2 R (l ++ [a]) (m ++ [b])
  | [], [], _ => ⟨hab, trivial⟩
  | _ :: _, _ :: _, h => ⟨h.1, each2_snoc hab h.2⟩
  | [], _ :: _, h => h.elim
  | _ :: _, [], h => h.elim
theorem each2_get {α β : Type} {R : α → β → Prop} : ∀ {l : List α} {m : List β}, Each2 R l m → ∀ i, (h : i < l.length) → ∃ h' : i < m.length, R l[i] m[i]
  | a :: l, b :: m, h, 0, _ => ⟨by simp, h.1⟩
  | a :: l, b :: m, h, i + 1, hi => by
    obtain ⟨h1, h2⟩ := each2_get h.2 i (by simpa using hi)
    exact ⟨by simpa using h1, h2⟩
  | [], [], _, i, hi => absurd hi (by simp)
  | a :: l, [], h, _, _ => h.elim
  | [], b :: m, h, _, _ => h.elim
/-- v is a slice of n texts, all of it in blocks of S: the list l; no text lies in the slice's own block -/
def IsTexts (S : Nat → Prop) (w : World) (v : Value) (n : Nat) (l : List (List UInt8)) : Prop :=
  ∃ vs, IsVec S w 22 1 v n vs ∧ Each2 (fun x t => IsRow (fun k => S k ∧ ¬ v.ownBlock = some k) w x (bys t)) vs l
theorem IsTexts.nil (S : Nat → Prop) (w : World) : IsTexts S w (.slice none 0 0) 0 [] := ⟨[], IsVec.nil _ _ _ _, trivial⟩
theorem IsTexts.len {S : Nat → Prop} {w : World} {v : Value} {n : Nat} {l : List (List UInt8)} (h : IsTexts S w v n l) : l.length = n := by
  obtain ⟨vs, h1, h2⟩ := h
  rw [← each2_length h2, h1.len, Nat.mul_one]
theorem IsTexts.form {S : Nat → Prop} {w : World} {v : Value} {n : Nat} {l : List (List UInt8)} (h : IsTexts S w v n l) : ∃ p c, v = .slice p n c := by
  obtain ⟨vs, h1, h2⟩ := h
  exact h1.form
theorem IsTexts.mod {S T : Nat → Prop} {w w' : World} {v : Value} {n : Nat} {l : List (List UInt8)} (h : IsTexts S w v n l) (m : Mod T w w') (hs : ∀ k, k < w.heap.size → S k → ¬ T k) : IsTexts S w' v n l := by
  obtain ⟨vs, h1, h2⟩ := h
  exact ⟨vs, h1.mod m hs, each2_imp (fun a b r => r.mod m (fun k hk h => hs k hk h.1)) h2⟩
theorem IsTexts.modNil {S : Nat → Prop} {w w' : World} {v : Value} {n : Nat} {l : List (List UInt8)} (h : IsTexts S w v n l) (m : Mod Go.Proofs.YtjilbnpehgigjaaGreat.nil w w') : IsTexts S w' v n l := h.mod m (fun _ _ _ f => f)
theorem IsTexts.mono {S T : Nat → Prop} {w : World} {v : Value} {n : Nat} {l : List (List UInt8)} (h : IsTexts S w v n l) (hs : ∀ k, k < w.heap.size → S k → T k) : IsTexts T w v n l := by
  obtain ⟨vs, h1, h2⟩ := h
  exact ⟨vs, h1.mono hs, each2_imp (fun a b r => r.mono (fun k hk h => ⟨hs k hk h.1, h.2⟩)) h2⟩
theorem IsTexts.own {S : Nat → Prop} {w : World} {v : Value} {n : Nat} {l : List (List UInt8)} (h : IsTexts S w v n l) {k : Nat} (hk : v.ownBlock = some k) : S k ∧ k < w.heap.size := by
  obtain ⟨vs, h1, h2⟩ := h
  refine ⟨h1.2 k hk, ?_⟩
  rcases h1.1.2 with ⟨rfl, _⟩ | ⟨g', cap, cur, rfl, _, hh, _⟩
  · simp [Value.ownBlock] at hk
  · simp [Value.ownBlock] at hk
    subst hk
    exact heap_lt hh
/-- one of the texts -/
theorem IsTexts.at {S : Nat → Prop} {w : World} {p : Option Addr} {n c : Nat} {l : List (List UInt8)} (h : IsTexts S w (.slice p n c) n l) (i : Nat) (hi : i < n) :
    ∃ g x, p = some ⟨g, 0, none⟩ ∧ g < w.heap.size ∧ w.cell? ⟨g, i, none⟩ = some x ∧ IsRow S w x (bys (l.getD i [])) := by
  obtain ⟨vs, h1, h2⟩ := h
  have hvl : vs.length = n := by have := h1.len; omega
  obtain ⟨g, rfl, -, hg⟩ := vecBlock h1 (by omega)
  obtain ⟨p', c', hp, hcc⟩ := h1.row
  simp only [Value.slice.injEq] at hp
  obtain ⟨rfl, -, -⟩ := hp
  obtain ⟨b, off, q1, q2, q3, q4⟩ := hcc i (by omega)
  simp only [Option.some.injEq, Addr.mk.injEq, and_true] at q1
  obtain ⟨rfl, rfl⟩ := q1
  obtain ⟨h', hr⟩ := each2_get h2 i (by omega)
  rw [Nat.zero_add] at q4
  refine ⟨g, vs[i], rfl, hg, by rw [q4, List.getD_eq_getElem?_getD, List.getElem?_eq_getElem (by omega)]; rfl, ?_⟩
  rw [List.getD_eq_getElem?_getD, List.getElem?_eq_getElem h']
  exact hr.mono (fun k _ h => h.1)
theorem info_text : (Tryz.prog.info? 22).map (fun i => (i.zero, i.size, i.bytes)) = some (some (.slice none 0 0), 1, 24) := by kernel_rfl
theorem cellsOne (w : World) (E : TypeId) (u : Value) (g : Nat) (hg : w.heap.size = g) : IsCells (· = g) (w.alloc (.cells #[u] E)) (.slice (some ⟨g, 0, none⟩) 1 1) 1 [u] := by
  subst hg
  refine ⟨_, 1, rfl, fun i hi => ⟨w.heap.size, 0, rfl, rfl, by simp, ?_⟩⟩
  have : i = 0 := by simpa using hi
  subst this
  rw [cell_of (heap_alloc_new w (.cells #[u] E))]; rfl
/-- append of one text -/
theorem texts_append {S R : Nat → Prop} {w : World} (ty : TypeId) {v x : Value} {n g : Nat} {l : List (List UInt8)} {t : List UInt8} (h : IsTexts S w v n l) (hx : IsRow R w x (bys t)) (hRS : ∀ k, R k → S k ∧ ¬ v.ownBlock = some k) (hg : w.heap.size = g) (hb : n + 1 ≤ 1000000000) :
    ∃ v' w', (Builtin.append_ #[40, 40] ty #[v, .slice (some ⟨g, 0, none⟩) 1 1]).run Tryz.prog (w.alloc (.cells #[x] 22)) = .ok v' w' ∧ IsTexts (fun k => S k ∨ w.heap.size ≤ k) w' v' (n + 1) (l ++ [t]) ∧ Mod (fun k => v.ownBlock = some k) w w' ∧ ∀ k, v'.ownBlock = some k → v.ownBlock = some k ∨ w.heap.size ≤ k := by
  obtain ⟨i0, hi, hz0, hz1, hz2⟩ := info_parts info_text
  obtain ⟨vs, h1, h2⟩ := h
  have hm : Mod Go.Proofs.YtjilbnpehgigjaaGreat.nil w (w.alloc (.cells #[x] 22)) := (Mod.refl _ w).alloc _
  have hone : x.oneCell' = true := by obtain ⟨p, c, rfl, _⟩ := hx; rfl
  obtain ⟨v', w', hr, h3, h4⟩ := vec_append (P := Tryz.prog) 40 ty 22 i0 _ 1 24 Tryz.underlying40 hi hz0 hz1 hz2 rfl (by omega) (show IsVec (fun k => v.ownBlock = some k) _ _ _ _ _ _ from ⟨(h1.modNil hm).1, fun _ h => h⟩) (cellsOne w 22 x g hg) rfl (by intro u hu; rw [List.mem_singleton.1 hu]; exact hone) (by unfold maxLen; omega) (by omega)
  have hob : ∀ k, v.ownBlock = some k → k < w.heap.size := fun k hk => by
    rcases h1.1.2 with ⟨rfl, _⟩ | ⟨g', cap, cur, rfl, _, hh, _⟩
    · simp [Value.ownBlock] at hk
    · simp [Value.ownBlock] at hk
      subst hk
      exact heap_lt hh
  have hmw : Mod (fun k => v.ownBlock = some k) w w' := hm.ofNil.trans h4 (fun _ _ h => h)
  refine ⟨v', w', hr, ⟨_, h3.mono (fun k _ hk => hk.elim (fun h => .inl (h1.2 k h)) (fun h => .inr (Nat.le_trans hm.size h))), each2_snoc ?_ (each2_imp (fun a b r => ?_) h2)⟩, hmw, fun k ho => (h3.2 k ho).imp id (fun h => Nat.le_trans hm.size h)⟩
  · exact (hx.here.mod hmw (fun k _ hk ho => (hRS k hk.1).2 ho)).mono (fun k _ hk => ⟨.inl (hRS k hk.1).1, fun ho => by
      rcases h3.2 k ho with h' | h'
      · exact (hRS k hk.1).2 h'
      · have := hm.size; have := hk.2; omega⟩)
  · exact (r.here.mod hmw (fun k _ hk ho => hk.1.2 ho)).mono (fun k _ hk => ⟨.inl hk.1.1, fun ho => by
      rcases h3.2 k ho with h' | h'
      · exact hk.1.2 h'
      · have := hm.size; have := hk.2; omega⟩)
end Go.Proofs.YtjilbnpehgigjaaGreat

/- Bytes as texts; cflref.Bytes. -/
namespace Go.Proofs.YtjilbnpehgigjaaGreat
open Go.RowKit

/-- a row of bytes as a text -/
theorem rowText {T : Nat → Prop} {w : World} {v : Value} {l : List UInt8} (h : IsRow T w v (bys l)) :
    (convert 22 9 v).run Tryz.prog w = .ok (.string ⟨l.toArray⟩) w := by
  obtain ⟨p, c, rfl, hc⟩ := h
  rw [bys_length] at *
  cases p with
  | none =>
    have h0 : l = [] := by
      rcases l with _ | ⟨a, l⟩
      · rfl
      · obtain ⟨b, off, h1, _⟩ := hc 0 (by simp); cases h1
    subst h0
    exact Lib.run_convert_nil_bytes w _ _ 5 c Tryz.underlying22 Tryz.underlying5 Tryz.underlying9
  | some a =>
    refine run_convert_bytes_back w _ _ 5 a c l Tryz.underlying22 Tryz.underlying5 Tryz.underlying9 (fun j hj => ?_)
    obtain ⟨b, off, h1, _, _, h2⟩ := hc j hj
    simp only [Option.some.injEq] at h1
    subst h1
    have e : (⟨b, off, none⟩ : Addr).add j = ⟨b, off + j, none⟩ := by unfold Addr.add; split <;> simp_all
    rw [e, h2, bys_getD _ _ hj]
    simp [hj]
theorem refBytesSame (S T : Nat → Prop) (va vb : Value) (la lb : List UInt8) (w : World) (ha : IsRow S w va (bys la)) (hb : IsRow T w vb (bys lb)) :
    Calls Tryz.prog 54 #[va, vb] w fun e w' => e = .returned (.bool (decide (la = lb))) ∧ w = w' := by
  have ra := rowText (ha.modNil (Mod.refl nil w))
  have rb := rowText (hb.modNil (Mod.refl nil w))
  obtain ⟨pa, ca, rfl, _⟩ := ha
  obtain ⟨pb, cb, rfl, _⟩ := hb
  go_enter Tryz.func54, Tryz.ntmps54
  go_wp2_with fail
  go_ret
  exact ⟨congrArg Ending.returned (congrArg Value.bool (show (la == lb) = decide (la = lb) from by rw [Bool.eq_iff_iff]; simp)), rfl⟩
end Go.Proofs.YtjilbnpehgigjaaGreat

/- bytes.Clone, bytes.Equal. -/
namespace Go.Proofs.YtjilbnpehgigjaaGreat
open Go.RowKit
theorem bytesClone (T : Nat → Prop) (v : Value) (l : List UInt8) (w : World) (h : IsRow T w v (bys l)) (hl : l.length ≤ 140737488355328) :
    Calls Tryz.prog 36 #[v] w fun e w' => ∃ v', e = .returned v' ∧ IsVec (fun k => w.heap.size ≤ k) w' 5 1 v' l.length (bys l) ∧ Mod nil w w' := by
  obtain ⟨p, c, rfl, hc⟩ := id h
  rw [bys_length] at *
  have heq := Lib.run_eql_slice_nil (P := Tryz.prog) w 22 5 p l.length c 0 0 Tryz.underlying22
  cases p with
  | none =>
    have h0 : l = [] := by
      rcases l with _ | ⟨a, l⟩
      · rfl
      · obtain ⟨b, off, h1, _⟩ := hc 0 (by simp); cases h1
    subst h0
    clear hl hc h
    simp only [List.length_nil, Option.isNone_none] at heq
    go_enter Tryz.func36, Tryz.ntmps36
    go_wp2
    go_ret
    exact ⟨_, rfl, IsVec.nil _ _ _ _, Mod.refl _ _⟩
  | some a =>
    have hv := vec_empty w 5 1
    have hx := h.modNil ((Mod.refl nil w).alloc (.cells #[] 5))
    obtain ⟨v', w', hrun, hvec, hmod⟩ := bytes_append (l := []) 22 hv hx (by simpa using hl)
    simp only [List.nil_append] at hvec
    clear hv hx h hl hc
    simp only [Option.isNone_some] at heq
    have HR := Lib.hid hrun
    clear hrun
    go_enter Tryz.func36, Tryz.ntmps36
    go_wp2_with (at_builtin; refine wpList_append_run rfl _ _ _ _ rfl rfl rfl HR.out ?_)
    go_ret
    exact ⟨_, rfl, hvec.mono (fun k _ hk => by rcases hk with hk | hk; exact hk; simp at hk; omega), ((Mod.refl nil w).alloc _).new hmod (fun _ h => h)⟩
theorem bytesEqual (S T : Nat → Prop) (va vb : Value) (la lb : List UInt8) (w : World) (ha : IsRow S w va (bys la)) (hb : IsRow T w vb (bys lb)) :
    Calls Tryz.prog 77 #[va, vb] w fun e w' => e = .returned (.bool (decide (la = lb))) ∧ w = w' := by
  have ra := rowText (ha.modNil (Mod.refl nil w))
  have rb := rowText (hb.modNil (Mod.refl nil w))
  obtain ⟨pa, ca, rfl, _⟩ := ha
  obtain ⟨pb, cb, rfl, _⟩ := hb
  go_enter Tryz.func77, Tryz.ntmps77
  go_wp2_with fail
  go_ret
  exact ⟨congrArg Ending.returned (congrArg Value.bool (show (la == lb) = decide (la = lb) from by rw [Bool.eq_iff_iff]; simp)), rfl⟩
end Go.Proofs.YtjilbnpehgigjaaGreat

/- cflref.Bytes and cflref.Lists. -/
namespace Go.Proofs.YtjilbnpehgigjaaGreat
open Go.RowKit
theorem list_eq (la lb : List UInt8) : (la == lb) = decide (la = lb) := by rw [Bool.eq_iff_iff]; simp
theorem list_ne (la lb : List UInt8) : (la != lb) = !decide (la = lb) := by rw [bne, list_eq]
theorem refBytesW (S T : Nat → Prop) (va vb : Value) (la lb : List UInt8) (w : World) (ha : IsRow S w va (bys la)) (hb : IsRow T w vb (bys lb)) :
    Calls Tryz.prog 54 #[va, vb] w fun e w' => e = .returned (.bool (decide (la = lb))) ∧ w = w' := by
  have ra := rowText (ha.modNil (Mod.refl nil w))
  have rb := rowText (hb.modNil (Mod.refl nil w))
  obtain ⟨pa, ca, rfl, _⟩ := ha
  obtain ⟨pb, cb, rfl, _⟩ := hb
  go_enter Tryz.func54, Tryz.ntmps54
  go_wp2_with fail
  go_ret
  exact ⟨congrArg Ending.returned (congrArg Value.bool (list_eq la lb)), rfl⟩
set_option maxRecDepth 100000 in
set_option maxHeartbeats 1000000 in
theorem refLists (S T : Nat → Prop) (va vb : Value) (n m : Nat) (la lb : List (List UInt8)) (w : World) (ha : IsTexts S w va n la) (hb : IsTexts T w vb m lb) (hn : n ≤ 100000) :
    Calls Tryz.prog 14 #[va, vb] w fun e w' => e = .returned (.bool (decide (la = lb))) ∧ ∃ k, w' = w.drewN k := by
  refine (?_ : ∀ Post : Ending → World → Prop, Hid (∀ e w', (e = .returned (.bool (decide (la = lb))) ∧ ∃ k, w' = w.drewN k) → Post e w') → Calls Tryz.prog 14 #[va, vb] w Post) _ (Lib.hid (fun _ _ h => h))
  intro Post HPOST
  obtain ⟨pa, ca, rfl⟩ := ha.form
  obtain ⟨pb, cb, rfl⟩ := hb.form
  have hla := ha.len
  have hlb := hb.len
  by_cases hnm : n = m
  · subst hnm
    have HA := Lib.hid ha
    have HB := Lib.hid hb
    have HLA := Lib.hid hla
    have HLB := Lib.hid hlb
    clear ha hb hla hlb
    have hne : ((n : Int) != (n : Int)) = false := by simp
    go_enter Tryz.func14, Tryz.ntmps14
    go_wp2_with fail
    clear hne
    go_loopw [5] (fun v wr => ∃ i k : Nat, i ≤ n ∧ v = .int .i64 i ∧ Hid (la.take i = lb.take i) ∧ wr = w.drewN k) (fun v _ => n - (intOf v).toNat)
    case atStart => exact ⟨0, 0, by omega, rfl, Lib.hid (by simp), rfl⟩
    case round =>
      obtain ⟨i, k, hi, rfl, HTK, rfl⟩ := hrel
      by_cases hlt : i < n
      · obtain ⟨ga, xa, rfl, hga, hxa, hra⟩ := HA.out.at i hlt
        obtain ⟨gb, xb, rfl, hgb, hxb, hrb⟩ := HB.out.at i hlt
        obtain ⟨ta, hta⟩ : ∃ t, la.getD i [] = t := ⟨_, rfl⟩
        obtain ⟨tb, htb⟩ : ∃ t, lb.getD i [] = t := ⟨_, rfl⟩
        rw [hta] at hra
        rw [htb] at hrb
        have rta : ∀ n, (convert 22 9 xa).run Tryz.prog (w.drewN n) = .ok (.string ⟨ta.toArray⟩) (w.drewN n) := fun n => rowText (hra.modNil ((Mod.refl nil w).drewN n))
        have rtb : ∀ n, (convert 22 9 xb).run Tryz.prog (w.drewN n) = .ok (.string ⟨tb.toArray⟩) (w.drewN n) := fun n => rowText (hrb.modNil ((Mod.refl nil w).drewN n))
        have ra : ∃ p c, xa = .slice p ta.length c := by obtain ⟨p, c, h, _⟩ := hra; rw [bys_length] at h; exact ⟨p, c, h⟩
        have rb : ∃ p c, xb = .slice p tb.length c := by obtain ⟨p, c, h, _⟩ := hrb; rw [bys_length] at h; exact ⟨p, c, h⟩
        have HS : Hid (la.take (i + 1) = la.take i ++ [ta] ∧ lb.take (i + 1) = lb.take i ++ [tb]) := Lib.hid (by
          rw [← hta, ← htb]
          refine ⟨?_, ?_⟩
          · rw [List.take_succ_eq_append_getElem (by rw [HLA.out]; exact hlt), List.getD_eq_getElem?_getD, List.getElem?_eq_getElem (by rw [HLA.out]; exact hlt)]; rfl
          · rw [List.take_succ_eq_append_getElem (by rw [HLB.out]; exact hlt), List.getD_eq_getElem?_getD, List.getElem?_eq_getElem (by rw [HLB.out]; exact hlt)]; rfl)
        clear hra hrb hta htb
        obtain ⟨p1, c1, hc1⟩ : ∃ p c, xa = .slice p ta.length c := ra
        obtain ⟨p2, c2, hc2⟩ : ∃ p c, xb = .slice p tb.length c := rb
        subst hc1 hc2
        have hbn := list_eq ta tb
        by_cases hab : ta = tb
        · subst hab
          rw [decide_eq_true rfl] at hbn
          go_upto_region 6 with (fail)
          go_quiet (fail)
          go_wp2_with fail
          exact ⟨⟨i + 1, _, by omega, by go_num, Lib.hid (by rw [HS.out.1, HS.out.2, HTK.out]), rfl⟩, by simp [intOf]; omega⟩
        · rw [decide_eq_false hab] at hbn
          have HE : Hid (∀ j, Post (.returned (.bool false)) ((w.drewN k).drewN j)) := Lib.hid (fun j => HPOST.out _ _ ⟨by
            rw [decide_eq_false]
            intro e
            have h1 := HS.out.1
            rw [e, HS.out.2] at h1
            have h2 := List.append_cancel_left h1
            exact hab (by simpa using h2.symm), _, World.drewN_drewN ..⟩)
          go_upto_region 6 with (fail)
          go_quiet (fail)
          go_wp2_with fail
          exact HE.out _
      · obtain rfl : i = n := by omega
        have HEND : Hid (Post (.returned (.bool true)) (w.drewN k)) := Lib.hid (HPOST.out _ _ ⟨by
          have h := HTK.out
          rw [List.take_of_length_le (by rw [HLA.out]; exact Nat.le_refl _), List.take_of_length_le (by rw [HLB.out]; exact Nat.le_refl _)] at h
          rw [decide_eq_true h], _, rfl⟩)
        go_wp2_with fail
        exact HEND.out
  · have hne : ((n : Int) != (m : Int)) = true := by rw [bne_iff_ne]; omega
    have HEND : Hid (Post (.returned (.bool false)) w) := Lib.hid (HPOST.out _ _ ⟨by rw [decide_eq_false]; intro e; rw [e] at hla; omega, 0, rfl⟩)
    clear ha hb hla hlb
    go_enter Tryz.func14, Tryz.ntmps14
    go_wp2_with fail
    exact HEND.out
end Go.Proofs.YtjilbnpehgigjaaGreat

/- Rows and vectors: fronts, capacities. -/
import Derived.Laws.Tables
import Derived.Test.YtdfahddpkkeldaaGreatNb
namespace Go.Proofs.YtdfahddpkkeldaaGreat
open Go.RowKit
theorem vecCap {S : Nat → Prop} {w : World} {E : TypeId} {sz n : Nat} {v : Value} {xs : List Value} (h : IsVec S w E sz v n xs) : ∃ p c, v = .slice p n c ∧ n ≤ c ∧ c ≤ maxLen := by
 rcases h.1.2 with ⟨rfl, rfl⟩ | ⟨g, cap, cur, rfl, _, _, h, hm, _⟩
 ·exact ⟨_, _, rfl, Nat.le_refl _, by unfold maxLen; omega⟩
 ·exact ⟨_, _, rfl, h, hm⟩
theorem bysTake (l : List UInt8) (n : Nat) : bys (l.take n) = (bys l).take n := by simp [bys, List.map_take]
theorem rowFront {S : Nat → Prop} {w : World} {p : Option Addr} {n c : Nat} {xs : List Value} (h : IsRow S w (.slice p n c) xs) (k : Nat) (hk : k ≤ xs.length) : IsRow S w (.slice p k c) (xs.take k) := by
 obtain ⟨p', c', hv, hc⟩ := h
 simp only [Value.slice.injEq] at hv
 obtain ⟨rfl, -, rfl⟩ := hv
 refine ⟨p, c, by rw [List.length_take, Nat.min_eq_left hk], fun i hi => ?_⟩
 rw [List.length_take] at hi
 obtain ⟨b, off, h1, h2, h3, h4⟩ := hc i (by omega)
 refine ⟨b, off, h1, h2, h3, ?_⟩
 rw [h4, List.getD_eq_getElem?_getD, List.getD_eq_getElem?_getD, List.getElem?_take_of_lt (by omega)]
/-- a block of an owned vector -/
theorem vecBlock {S : Nat → Prop} {w : World} {E : TypeId} {sz n : Nat} {p : Option Addr} {c : Nat} {xs : List Value} (h : IsVec S w E sz (.slice p n c) n xs) (hn : 0 < n) :
  ∃ b, p = some ⟨b, 0, none⟩ ∧ S b ∧ b < w.heap.size := by
 obtain ⟨⟨hl, h1⟩, h2⟩ := h
 rcases h1 with ⟨h, rfl⟩ | ⟨g, cap, cur, h, hg, hh, _⟩
 ·omega
 ·simp only [Value.slice.injEq] at h
  obtain ⟨rfl, -, rfl⟩ := h
  exact ⟨g, rfl, h2 g rfl, heap_lt hh⟩
theorem Mod.rowSet {S : Nat → Prop} {a w : World} (h : Mod S a w) (g : Nat) (cs : Array Value) (hg : g < a.heap.size → S g) : Mod S a (w.setRow g cs) :=
 ⟨h.os, h.tape, h.output, by simpa [World.setRow] using h.size, fun k hk hs => (setRow_other w g k cs (fun e => hs (e ▸ hg (e ▸ hk)))).trans (h.block k hk hs)⟩
theorem vec_set {S : Nat → Prop} {w : World} {E : TypeId} {v : Value} {n : Nat} {xs : List Value} (h : IsVec S w E 1 v n xs) (i : Nat) (hi : i < n) :
  ∃ g c, v = .slice (some ⟨g, 0, none⟩) n c ∧ S g ∧ g < w.heap.size ∧ w.cell? ⟨g, i, none⟩ = some (xs.getD i undef) ∧ w.frozen? ⟨g, i, none⟩ = false ∧ ∀ u : Value, u.oneCell' = true → IsVec S (w.setCell ⟨g, i, none⟩ u) E 1 v n (xs.set i u) := by
 obtain ⟨p, c, hv, hc⟩ := h.row
 have hl := h.len
 obtain ⟨b, off, hp, hS, hb, hcell⟩ := hc i (by omega)
 obtain ⟨⟨hlen, h1⟩, h2⟩ := h
 rcases h1 with ⟨_, h0⟩ | ⟨g, cap, cur, rfl, hg, hh, hn, hm, hs, ht⟩
 ·omega
 ·simp only [Value.slice.injEq] at hv
  obtain ⟨rfl, -, rfl⟩ := hv
  simp only [Option.some.injEq, Addr.mk.injEq, and_true] at hp
  obtain ⟨rfl, rfl⟩ := hp
  rw [Nat.zero_add] at hcell
  refine ⟨g, cap, rfl, hS, hb, hcell, free_of hh i, fun u hu => ⟨⟨by simpa using hlen, .inr ⟨g, cap, cur.setIfInBounds i u, rfl, hg, heap_setCell_same hh u, hn, hm, by simpa using hs, ?_⟩⟩, h2⟩⟩
  rw [← ht]
  simp [List.take_set]
end Go.Proofs.YtdfahddpkkeldaaGreat

/- Slices of byte slices that the program made itself. -/
namespace Go.Proofs.YtdfahddpkkeldaaGreat
open Go.RowKit
/-- both lists, one by one -/
def Each2 {α β : Type} (R : α → β → Prop) : List α → List β → Prop
 | [], [] => True
 | a :: l, b :: m => R a b ∧ Each2 R l m
 | _, _ => False
theorem each2_length {α β : Type} {R : α → β → Prop} : ∀ {l : List α} {m : List β}, Each2 R l m → l.length = m.length
 | [], [], _ => rfl
 | _ :: _, _ :: _, h => by simp [each2_length h.2]
 | [], _ :: _, h => h.elim
 | _ :: _, [], h => h.elim
theorem each2_imp {α β : Type} {R R' : α → β → Prop} (hi : ∀ a b, R a b → R' a b) : ∀ {l : List α} {m : List β}, Each2 R l m → Each2 R' l m
 | [], [], _ => trivial
 | _ :: _, _ :: _, h => ⟨hi _ _ h.1, each2_imp hi h.2⟩
 | [], _ :: _, h => h.elim
 | _ :: _, [], h => h.elim
theorem each2_snoc {α β : Type} {R : α → β → Prop} {a : α} {b : β} (hab : R a b) : ∀ {l : List α} {m : List β}, Each2 R l m → Each2 R (l ++ [a]) (m ++ [b])
 | [], [], _ => ⟨hab, trivial⟩
 | _ :: _, _ :: _, h => ⟨h.1, each2_snoc hab h.2⟩
 | [], _ :: _, h => h.elim
 | _ :: _, [], h => h.elim
theorem each2_get {α β : Type} {R : α → β → Prop} : ∀ {l : List α} {m : List β}, Each2 R l m → ∀ i, (h : i < l.length) → ∃ h' : i < m.length, R l[i] m[i]
 | a :: l, b :: m, h, 0, _ => ⟨by simp, h.1⟩
 | a :: l, b :: m, h, i + 1, hi => by
  obtain ⟨h1, h2⟩ := each2_get h.2 i (by simpa using hi)
  exact ⟨by simpa using h1, h2⟩
 | [], [], _, i, hi => absurd hi (by simp)
 | a :: l, [], h, _, _ => h.elim
 | [], b :: m, h, _, _ => h.elim
/-- v is a slice of n texts, all of it in blocks of S: the list l; no text lies in the slice's own block -/
def IsTexts (S : Nat → Prop) (w : World) (v : Value) (n : Nat) (l : List (List UInt8)) : Prop :=
 ∃ vs, IsVec S w 40 1 v n vs ∧ Each2 (fun x t => IsRow (fun k => S k ∧ ¬ v.ownBlock = some k) w x (bys t)) vs l
theorem IsTexts.nil (S : Nat → Prop) (w : World) : IsTexts S w (.slice none 0 0) 0 [] := ⟨[], IsVec.nil _ _ _ _, trivial⟩
theorem IsTexts.len {S : Nat → Prop} {w : World} {v : Value} {n : Nat} {l : List (List UInt8)} (h : IsTexts S w v n l) : l.length = n := by
 obtain ⟨vs, h1, h2⟩ := h
 rw [← each2_length h2, h1.len, Nat.mul_one]
theorem IsTexts.form {S : Nat → Prop} {w : World} {v : Value} {n : Nat} {l : List (List UInt8)} (h : IsTexts S w v n l) : ∃ p c, v = .slice p n c := by
 obtain ⟨vs, h1, h2⟩ := h
 exact h1.form
theorem IsTexts.mod {S T : Nat → Prop} {w w' : World} {v : Value} {n : Nat} {l : List (List UInt8)} (h : IsTexts S w v n l) (m : Mod T w w') (hs : ∀ k, k < w.heap.size → S k → ¬ T k) : IsTexts S w' v n l := by
 obtain ⟨vs, h1, h2⟩ := h
 exact ⟨vs, h1.mod m hs, each2_imp (fun a b r => r.mod m (fun k hk h => hs k hk h.1)) h2⟩
theorem IsTexts.modNil {S : Nat → Prop} {w w' : World} {v : Value} {n : Nat} {l : List (List UInt8)} (h : IsTexts S w v n l) (m : Mod Go.Proofs.YtdfahddpkkeldaaGreat.nil w w') : IsTexts S w' v n l := h.mod m (fun _ _ _ f => f)
theorem IsTexts.mono {S T : Nat → Prop} {w : World} {v : Value} {n : Nat} {l : List (List UInt8)} (h : IsTexts S w v n l) (hs : ∀ k, k < w.heap.size → S k → T k) : IsTexts T w v n l := by
 obtain ⟨vs, h1, h2⟩ := h
 exact ⟨vs, h1.mono hs, each2_imp (fun a b r => r.mono (fun k hk h => ⟨hs k hk h.1, h.2⟩)) h2⟩
theorem IsTexts.own {S : Nat → Prop} {w : World} {v : Value} {n : Nat} {l : List (List UInt8)} (h : IsTexts S w v n l) {k : Nat} (hk : v.ownBlock = some k) : S k ∧ k < w.heap.size := by
 obtain ⟨vs, h1, h2⟩ := h
 refine ⟨h1.2 k hk, ?_⟩
 rcases h1.1.2 with ⟨rfl, _⟩ | ⟨g', cap, cur, rfl, _, hh, _⟩
 ·simp [Value.ownBlock] at hk
 ·simp [Value.ownBlock] at hk
  subst hk
  exact heap_lt hh
/-- one of the texts -/
theorem IsTexts.at {S : Nat → Prop} {w : World} {p : Option Addr} {n c : Nat} {l : List (List UInt8)} (h : IsTexts S w (.slice p n c) n l) (i : Nat) (hi : i < n) :
  ∃ g x, p = some ⟨g, 0, none⟩ ∧ g < w.heap.size ∧ w.cell? ⟨g, i, none⟩ = some x ∧ IsRow S w x (bys (l.getD i [])) := by
 obtain ⟨vs, h1, h2⟩ := h
 have hvl : vs.length = n := by have := h1.len; omega
 obtain ⟨g, rfl, -, hg⟩ := vecBlock h1 (by omega)
 obtain ⟨p', c', hp, hcc⟩ := h1.row
 simp only [Value.slice.injEq] at hp
 obtain ⟨rfl, -, -⟩ := hp
 obtain ⟨b, off, q1, q2, q3, q4⟩ := hcc i (by omega)
 simp only [Option.some.injEq, Addr.mk.injEq, and_true] at q1
 obtain ⟨rfl, rfl⟩ := q1
 obtain ⟨h', hr⟩ := each2_get h2 i (by omega)
 rw [Nat.zero_add] at q4
 refine ⟨g, vs[i], rfl, hg, by rw [q4, List.getD_eq_getElem?_getD, List.getElem?_eq_getElem (by omega)]; rfl, ?_⟩
 rw [List.getD_eq_getElem?_getD, List.getElem?_eq_getElem h']
 exact hr.mono (fun k _ h => h.1)
theorem info_text : (Tryz.prog.info? 40).map (fun i => (i.zero, i.size, i.bytes)) = some (some (.slice none 0 0), 1, 24) := by kernel_rfl
theorem cellsOne (w : World) (E : TypeId) (u : Value) (g : Nat) (hg : w.heap.size = g) : IsCells (· = g) (w.alloc (.cells #[u] E)) (.slice (some ⟨g, 0, none⟩) 1 1) 1 [u] := by
 subst hg
 refine ⟨_, 1, rfl, fun i hi => ⟨w.heap.size, 0, rfl, rfl, by simp, ?_⟩⟩
 have : i = 0 := by simpa using hi
 subst this
 rw [cell_of (heap_alloc_new w (.cells #[u] E))]; rfl
/-- append of one text -/
theorem texts_append {S R : Nat → Prop} {w : World} (ty : TypeId) {v x : Value} {n g : Nat} {l : List (List UInt8)} {t : List UInt8} (h : IsTexts S w v n l) (hx : IsRow R w x (bys t)) (hRS : ∀ k, R k → S k ∧ ¬ v.ownBlock = some k) (hg : w.heap.size = g) (hb : n + 1 ≤ 1000000000) :
  ∃ v' w', (Builtin.append_ #[85, 85] ty #[v, .slice (some ⟨g, 0, none⟩) 1 1]).run Tryz.prog (w.alloc (.cells #[x] 40)) = .ok v' w' ∧ IsTexts (fun k => S k ∨ w.heap.size ≤ k) w' v' (n + 1) (l ++ [t]) ∧ Mod (fun k => v.ownBlock = some k) w w' ∧ ∀ k, v'.ownBlock = some k → v.ownBlock = some k ∨ w.heap.size ≤ k := by
 obtain ⟨i0, hi, hz0, hz1, hz2⟩ := info_parts info_text
 obtain ⟨vs, h1, h2⟩ := h
 have hm : Mod Go.Proofs.YtdfahddpkkeldaaGreat.nil w (w.alloc (.cells #[x] 40)) := (Mod.refl _ w).alloc _
 have hone : x.oneCell' = true := by obtain ⟨p, c, rfl, _⟩ := hx; rfl
 obtain ⟨v', w', hr, h3, h4⟩ := vec_append (P := Tryz.prog) 85 ty 40 i0 _ 1 24 Tryz.underlying85 hi hz0 hz1 hz2 rfl (by omega) (show IsVec (fun k => v.ownBlock = some k) _ _ _ _ _ _ from ⟨(h1.modNil hm).1, fun _ h => h⟩) (cellsOne w 40 x g hg) rfl (by intro u hu; rw [List.mem_singleton.1 hu]; exact hone) (by unfold maxLen; omega) (by omega)
 have hob : ∀ k, v.ownBlock = some k → k < w.heap.size := fun k hk => by
  rcases h1.1.2 with ⟨rfl, _⟩ | ⟨g', cap, cur, rfl, _, hh, _⟩
  ·simp [Value.ownBlock] at hk
  ·simp [Value.ownBlock] at hk
   subst hk
   exact heap_lt hh
 have hmw : Mod (fun k => v.ownBlock = some k) w w' := hm.ofNil.trans h4 (fun _ _ h => h)
 refine ⟨v', w', hr, ⟨_, h3.mono (fun k _ hk => hk.elim (fun h => .inl (h1.2 k h)) (fun h => .inr (Nat.le_trans hm.size h))), each2_snoc ?_ (each2_imp (fun a b r => ?_) h2)⟩, hmw, fun k ho => (h3.2 k ho).imp id (fun h => Nat.le_trans hm.size h)⟩
 ·exact (hx.here.mod hmw (fun k _ hk ho => (hRS k hk.1).2 ho)).mono (fun k _ hk => ⟨.inl (hRS k hk.1).1, fun ho => by
   rcases h3.2 k ho with h' | h'
   ·exact (hRS k hk.1).2 h'
   ·have := hm.size; have := hk.2; omega⟩)
 ·exact (r.here.mod hmw (fun k _ hk ho => hk.1.2 ho)).mono (fun k _ hk => ⟨.inl hk.1.1, fun ho => by
   rcases h3.2 k ho with h' | h'
   ·exact hk.1.2 h'
   ·have := hm.size; have := hk.2; omega⟩)
end Go.Proofs.YtdfahddpkkeldaaGreat

/- Slices of byte slices that the program made itself, each with room for its bytes. -/
namespace Go.Proofs.YtdfahddpkkeldaaGreat
open Go.RowKit
/-- a slice holds no more than it has room for -/
def CapOk (x : Value) : Prop := ∀ p n c, x = .slice p n c → n ≤ c ∧ c ≤ maxLen
theorem IsVec.capOk {S : Nat → Prop} {w : World} {E : TypeId} {sz n : Nat} {v : Value} {xs : List Value} (h : IsVec S w E sz v n xs) : CapOk v := by
 obtain ⟨p, c, rfl, h1, h2⟩ := vecCap h
 intro p' n' c' e
 simp only [Value.slice.injEq] at e
 obtain ⟨rfl, rfl, rfl⟩ := e
 exact ⟨h1, h2⟩
def IsTextsC (S : Nat → Prop) (w : World) (v : Value) (n : Nat) (l : List (List UInt8)) : Prop :=
 ∃ vs, IsVec S w 40 1 v n vs ∧ Each2 (fun x t => IsRow (fun k => S k ∧ ¬ v.ownBlock = some k) w x (bys t) ∧ CapOk x) vs l
theorem IsTextsC.texts {S : Nat → Prop} {w : World} {v : Value} {n : Nat} {l : List (List UInt8)} (h : IsTextsC S w v n l) : IsTexts S w v n l := by
 obtain ⟨vs, h1, h2⟩ := h
 exact ⟨vs, h1, each2_imp (fun a b r => r.1) h2⟩
theorem IsTextsC.nil (S : Nat → Prop) (w : World) : IsTextsC S w (.slice none 0 0) 0 [] := ⟨[], IsVec.nil _ _ _ _, trivial⟩
theorem IsTextsC.len {S : Nat → Prop} {w : World} {v : Value} {n : Nat} {l : List (List UInt8)} (h : IsTextsC S w v n l) : l.length = n := h.texts.len
theorem IsTextsC.form {S : Nat → Prop} {w : World} {v : Value} {n : Nat} {l : List (List UInt8)} (h : IsTextsC S w v n l) : ∃ p c, v = .slice p n c := h.texts.form
theorem IsTextsC.own {S : Nat → Prop} {w : World} {v : Value} {n : Nat} {l : List (List UInt8)} (h : IsTextsC S w v n l) {k : Nat} (hk : v.ownBlock = some k) : S k ∧ k < w.heap.size := h.texts.own hk
theorem IsTextsC.mod {S T : Nat → Prop} {w w' : World} {v : Value} {n : Nat} {l : List (List UInt8)} (h : IsTextsC S w v n l) (m : Mod T w w') (hs : ∀ k, k < w.heap.size → S k → ¬ T k) : IsTextsC S w' v n l := by
 obtain ⟨vs, h1, h2⟩ := h
 exact ⟨vs, h1.mod m hs, each2_imp (fun a b r => ⟨r.1.mod m (fun k hk h => hs k hk h.1), r.2⟩) h2⟩
theorem IsTextsC.modNil {S : Nat → Prop} {w w' : World} {v : Value} {n : Nat} {l : List (List UInt8)} (h : IsTextsC S w v n l) (m : Mod Go.Proofs.YtdfahddpkkeldaaGreat.nil w w') : IsTextsC S w' v n l := h.mod m (fun _ _ _ f => f)
theorem IsTextsC.mono {S T : Nat → Prop} {w : World} {v : Value} {n : Nat} {l : List (List UInt8)} (h : IsTextsC S w v n l) (hs : ∀ k, k < w.heap.size → S k → T k) : IsTextsC T w v n l := by
 obtain ⟨vs, h1, h2⟩ := h
 exact ⟨vs, h1.mono hs, each2_imp (fun a b r => ⟨r.1.mono (fun k hk h => ⟨hs k hk h.1, h.2⟩), r.2⟩) h2⟩
/-- one of the texts -/
theorem IsTextsC.at {S : Nat → Prop} {w : World} {p : Option Addr} {n c : Nat} {l : List (List UInt8)} (h : IsTextsC S w (.slice p n c) n l) (i : Nat) (hi : i < n) :
  ∃ g x, p = some ⟨g, 0, none⟩ ∧ g < w.heap.size ∧ w.cell? ⟨g, i, none⟩ = some x ∧ IsRow S w x (bys (l.getD i [])) ∧ CapOk x := by
 have hl := h.len
 obtain ⟨vs, h1, h2⟩ := h
 have hvl : vs.length = n := by have := h1.len; omega
 obtain ⟨g, rfl, -, hg⟩ := vecBlock h1 (by omega)
 obtain ⟨p', c', hp, hcc⟩ := h1.row
 simp only [Value.slice.injEq] at hp
 obtain ⟨rfl, -, -⟩ := hp
 obtain ⟨b, off, q1, q2, q3, q4⟩ := hcc i (by omega)
 simp only [Option.some.injEq, Addr.mk.injEq, and_true] at q1
 obtain ⟨rfl, rfl⟩ := q1
 obtain ⟨h', hr⟩ := each2_get h2 i (by omega)
 rw [Nat.zero_add] at q4
 refine ⟨g, vs[i], rfl, hg, by rw [q4, List.getD_eq_getElem?_getD, List.getElem?_eq_getElem (by omega)]; rfl, ?_, hr.2⟩
 rw [List.getD_eq_getElem?_getD, List.getElem?_eq_getElem h']
 exact hr.1.mono (fun k _ h => h.1)
/-- append of one text -/
theorem textsC_append {S R : Nat → Prop} {w : World} (ty : TypeId) {v x : Value} {n g : Nat} {l : List (List UInt8)} {t : List UInt8} (h : IsTextsC S w v n l) (hx : IsRow R w x (bys t)) (hxc : CapOk x) (hRS : ∀ k, R k → S k ∧ ¬ v.ownBlock = some k) (hg : w.heap.size = g) (hb : n + 1 ≤ 1000000000) :
  ∃ v' w', (Builtin.append_ #[85, 85] ty #[v, .slice (some ⟨g, 0, none⟩) 1 1]).run Tryz.prog (w.alloc (.cells #[x] 40)) = .ok v' w' ∧ IsTextsC (fun k => S k ∨ w.heap.size ≤ k) w' v' (n + 1) (l ++ [t]) ∧ Mod (fun k => v.ownBlock = some k) w w' ∧ ∀ k, v'.ownBlock = some k → v.ownBlock = some k ∨ w.heap.size ≤ k := by
 obtain ⟨i0, hi, hz0, hz1, hz2⟩ := info_parts info_text
 obtain ⟨vs, h1, h2⟩ := h
 have hm : Mod Go.Proofs.YtdfahddpkkeldaaGreat.nil w (w.alloc (.cells #[x] 40)) := (Mod.refl _ w).alloc _
 have hone : x.oneCell' = true := by obtain ⟨p, c, rfl, _⟩ := hx; rfl
 obtain ⟨v', w', hr, h3, h4⟩ := vec_append (P := Tryz.prog) 85 ty 40 i0 _ 1 24 Tryz.underlying85 hi hz0 hz1 hz2 rfl (by omega) (show IsVec (fun k => v.ownBlock = some k) _ _ _ _ _ _ from ⟨(h1.modNil hm).1, fun _ h => h⟩) (cellsOne w 40 x g hg) rfl (by intro u hu; rw [List.mem_singleton.1 hu]; exact hone) (by unfold maxLen; omega) (by omega)
 have hob : ∀ k, v.ownBlock = some k → k < w.heap.size := fun k hk => by
  rcases h1.1.2 with ⟨rfl, _⟩ | ⟨g', cap, cur, rfl, _, hh, _⟩
  ·simp [Value.ownBlock] at hk
  ·simp [Value.ownBlock] at hk
   subst hk
   exact heap_lt hh
 have hmw : Mod (fun k => v.ownBlock = some k) w w' := hm.ofNil.trans h4 (fun _ _ h => h)
 refine ⟨v', w', hr, ⟨_, h3.mono (fun k _ hk => hk.elim (fun h => .inl (h1.2 k h)) (fun h => .inr (Nat.le_trans hm.size h))), each2_snoc ⟨?_, hxc⟩ (each2_imp (fun a b r => ⟨?_, r.2⟩) h2)⟩, hmw, fun k ho => (h3.2 k ho).imp id (fun h => Nat.le_trans hm.size h)⟩
 ·exact (hx.here.mod hmw (fun k _ hk ho => (hRS k hk.1).2 ho)).mono (fun k _ hk => ⟨.inl (hRS k hk.1).1, fun ho => by
   rcases h3.2 k ho with h' | h'
   ·exact (hRS k hk.1).2 h'
   ·have := hm.size; have := hk.2; omega⟩)
 ·exact (r.1.here.mod hmw (fun k _ hk ho => hk.1.2 ho)).mono (fun k _ hk => ⟨.inl hk.1.1, fun ho => by
   rcases h3.2 k ho with h' | h'
   ·exact hk.1.2 h'
   ·have := hm.size; have := hk.2; omega⟩)
end Go.Proofs.YtdfahddpkkeldaaGreat

/- Entries of a log (package chain), and slices of them. -/
namespace Go.Proofs.YtdfahddpkkeldaaGreat
open Go.RowKit
structure En where
 k : Int
 b : List UInt8
deriving DecidableEq
/-- the cells of entries whose bodies are the slices xs -/
def ensC : List En → List Value → List Value
 | e :: l, x :: xs => .int .i64 e.k :: x :: ensC l xs
 | _, _ => []
theorem ensC_length : ∀ (l : List En) (xs : List Value), xs.length = l.length → (ensC l xs).length = l.length * 2
 | [], [], _ => rfl
 | e :: l, x :: xs, h => by rw [ensC, List.length_cons, List.length_cons, ensC_length l xs (by simpa using h), List.length_cons]; omega
 | [], _ :: _, h => by simp at h
 | _ :: _, [], h => by simp at h
theorem ensC_snoc (e : En) (x : Value) : ∀ (l : List En) (xs : List Value), xs.length = l.length → ensC (l ++ [e]) (xs ++ [x]) = ensC l xs ++ [.int .i64 e.k, x]
 | [], [], _ => rfl
 | a :: l, y :: xs, h => by rw [List.cons_append, List.cons_append, ensC, ensC_snoc e x l xs (by simpa using h), ensC]; rfl
 | [], _ :: _, h => by simp at h
 | _ :: _, [], h => by simp at h
theorem ensC_get : ∀ (l : List En) (xs : List Value) (i : Nat) (hi : i < l.length) (hx : i < xs.length), (ensC l xs)[2 * i]? = some (.int .i64 l[i].k) ∧ (ensC l xs)[2 * i + 1]? = some xs[i]
  | e :: l, x :: xs, 0, _, _ => ⟨rfl, rfl⟩
  | e :: l, x :: xs, i + 1, hi, hx => by
    have := ensC_get l xs i (by simpa using hi) (by simpa using hx)
    rw [ensC, show 2 * (i + 1) = 2 * i + 1 + 1 by omega, List.getElem?_cons_succ, List.getElem?_cons_succ, List.getElem?_cons_succ, List.getElem?_cons_succ, List.getElem_cons_succ, List.getElem_cons_succ]
    exact this
/-- a slice of entries that is read -/
def IsEns (S : Nat → Prop) (w : World) (v : Value) (l : List En) : Prop := ∃ vs, IsCells S w v l.length (ensC l vs) ∧ Each2 (fun x (e : En) => IsRow S w x (bys e.b)) vs l
theorem IsEns.form {S : Nat → Prop} {w : World} {v : Value} {l : List En} (h : IsEns S w v l) : ∃ p c, v = .slice p l.length c := by
 obtain ⟨vs, ⟨p, c, hv, -⟩, -⟩ := h
 exact ⟨p, c, hv⟩
theorem IsEns.mod {S T : Nat → Prop} {w w' : World} {v : Value} {l : List En} (h : IsEns S w v l) (m : Mod T w w') (hs : ∀ k, k < w.heap.size → S k → ¬ T k) : IsEns S w' v l := by
 obtain ⟨vs, h1, h2⟩ := h
 exact ⟨vs, h1.mod m hs, each2_imp (fun a b r => r.mod m hs) h2⟩
theorem IsEns.modNil {S : Nat → Prop} {w w' : World} {v : Value} {l : List En} (h : IsEns S w v l) (m : Mod Go.Proofs.YtdfahddpkkeldaaGreat.nil w w') : IsEns S w' v l := h.mod m (fun _ _ _ f => f)
theorem IsCells.mono {S T : Nat → Prop} {w : World} {v : Value} {n : Nat} {xs : List Value} (h : IsCells S w v n xs) (hs : ∀ k, k < w.heap.size → S k → T k) : IsCells T w v n xs := by
 obtain ⟨p, c, rfl, hc⟩ := h
 refine ⟨p, c, rfl, fun i hi => ?_⟩
 obtain ⟨b, off, h1, h2, h3, h4⟩ := hc i hi
 exact ⟨b, off, h1, hs b h3 h2, h3, h4⟩
theorem IsEns.mono {S T : Nat → Prop} {w : World} {v : Value} {l : List En} (h : IsEns S w v l) (hs : ∀ k, k < w.heap.size → S k → T k) : IsEns T w v l := by
 obtain ⟨vs, h1, h2⟩ := h
 exact ⟨vs, h1.mono hs, each2_imp (fun a b r => r.mono hs) h2⟩
theorem IsEns.nil (S : Nat → Prop) (w : World) (p : Option Addr) (c : Nat) : IsEns S w (.slice p 0 c) [] := ⟨[], ⟨p, c, rfl, fun i hi => by simp [ensC] at hi⟩, trivial⟩
/-- one of the entries -/
theorem IsEns.at {S : Nat → Prop} {w : World} {p : Option Addr} {n c : Nat} {l : List En} (h : IsEns S w (.slice p n c) l) (i : Nat) (hi : i < l.length) :
  ∃ b off x, p = some ⟨b, off, none⟩ ∧ S b ∧ b < w.heap.size ∧ w.cell? ⟨b, off + i * 2, none⟩ = some (.int .i64 l[i].k) ∧ w.cell? ⟨b, off + i * 2 + 1, none⟩ = some x ∧ IsRow S w x (bys l[i].b) := by
 obtain ⟨vs, ⟨p', c', hv, hc⟩, h2⟩ := h
 simp only [Value.slice.injEq] at hv
 obtain ⟨rfl, -, -⟩ := hv
 have hl := each2_length h2
 have hlen := ensC_length l vs hl
 obtain ⟨g0, g1⟩ := ensC_get l vs i hi (by omega)
 obtain ⟨b, off, rfl, h3, h4, h5⟩ := hc (2 * i) (by omega)
 obtain ⟨b1, off1, e1, -, -, h6⟩ := hc (2 * i + 1) (by omega)
 simp only [Option.some.injEq, Addr.mk.injEq, and_true] at e1
 obtain ⟨rfl, rfl⟩ := e1
 obtain ⟨h', hr⟩ := each2_get h2 i (by omega)
 refine ⟨b, off, vs[i], rfl, h3, h4, ?_, ?_, hr⟩
 ·rw [show off + i * 2 = off + 2 * i by omega, h5, List.getD_eq_getElem?_getD, g0]; rfl
 ·rw [show off + i * 2 + 1 = off + (2 * i + 1) by omega, h6, List.getD_eq_getElem?_getD, g1]; rfl
/-- v is a slice of n entries of the program's own, all of it in blocks of S; no body lies in the slice's own block -/
def IsEnts (S : Nat → Prop) (w : World) (v : Value) (n : Nat) (l : List En) : Prop :=
 l.length = n ∧ ∃ vs, IsVec S w 42 2 v n (ensC l vs) ∧ Each2 (fun x (e : En) => IsRow (fun k => S k ∧ ¬ v.ownBlock = some k) w x (bys e.b)) vs l
theorem IsEnts.nil (S : Nat → Prop) (w : World) : IsEnts S w (.slice none 0 0) 0 [] := ⟨rfl, [], IsVec.nil _ _ _ _, trivial⟩
theorem IsEnts.form {S : Nat → Prop} {w : World} {v : Value} {n : Nat} {l : List En} (h : IsEnts S w v n l) : ∃ p c, v = .slice p n c := by
 obtain ⟨-, vs, h1, h2⟩ := h
 exact h1.form
theorem IsEnts.mod {S T : Nat → Prop} {w w' : World} {v : Value} {n : Nat} {l : List En} (h : IsEnts S w v n l) (m : Mod T w w') (hs : ∀ k, k < w.heap.size → S k → ¬ T k) : IsEnts S w' v n l := by
 obtain ⟨h0, vs, h1, h2⟩ := h
 exact ⟨h0, vs, h1.mod m hs, each2_imp (fun a b r => r.mod m (fun k hk h => hs k hk h.1)) h2⟩
theorem IsEnts.modNil {S : Nat → Prop} {w w' : World} {v : Value} {n : Nat} {l : List En} (h : IsEnts S w v n l) (m : Mod Go.Proofs.YtdfahddpkkeldaaGreat.nil w w') : IsEnts S w' v n l := h.mod m (fun _ _ _ f => f)
theorem IsEnts.mono {S T : Nat → Prop} {w : World} {v : Value} {n : Nat} {l : List En} (h : IsEnts S w v n l) (hs : ∀ k, k < w.heap.size → S k → T k) : IsEnts T w v n l := by
 obtain ⟨h0, vs, h1, h2⟩ := h
 exact ⟨h0, vs, h1.mono hs, each2_imp (fun a b r => r.mono (fun k hk h => ⟨hs k hk h.1, h.2⟩)) h2⟩
theorem IsEnts.own {S : Nat → Prop} {w : World} {v : Value} {n : Nat} {l : List En} (h : IsEnts S w v n l) {k : Nat} (hk : v.ownBlock = some k) : S k ∧ k < w.heap.size := by
 obtain ⟨h0, vs, h1, h2⟩ := h
 refine ⟨h1.2 k hk, ?_⟩
 rcases h1.1.2 with ⟨rfl, _⟩ | ⟨g', cap, cur, rfl, _, hh, _⟩
 ·simp [Value.ownBlock] at hk
 ·simp [Value.ownBlock] at hk
  subst hk
  exact heap_lt hh
theorem IsEnts.read {S : Nat → Prop} {w : World} {v : Value} {n : Nat} {l : List En} (h : IsEnts S w v n l) : IsEns S w v l := by
 obtain ⟨rfl, vs, h1, h2⟩ := h
 exact ⟨vs, h1.cells, each2_imp (fun a b r => r.mono (fun k _ h => h.1)) h2⟩
theorem info_entry : (Tryz.prog.info? 42).map (fun i => (i.zero, i.size, i.bytes)) = some (some (.agg #[.int .i64 0, .slice none 0 0]), 2, 32) := by kernel_rfl
theorem cellsTwo (w : World) (E : TypeId) (u x : Value) (g : Nat) (hg : w.heap.size = g) : IsCells (· = g) (w.alloc (.cells #[u, x] E)) (.slice (some ⟨g, 0, none⟩) 1 1) 1 [u, x] := by
 subst hg
 refine ⟨_, 1, rfl, fun i hi => ⟨w.heap.size, 0, rfl, rfl, by simp, ?_⟩⟩
 have hi2 : i < 2 := by simpa using hi
 rw [cell_of (heap_alloc_new w (.cells #[u, x] E))]
 match i, hi2 with
 | 0, _ => rfl
 | 1, _ => rfl
/-- append of one entry -/
theorem ents_append {S R : Nat → Prop} {w : World} (ty : TypeId) {v x : Value} {n g : Nat} {l : List En} {e : En} (h : IsEnts S w v n l) (hx : IsRow R w x (bys e.b)) (hRS : ∀ k, R k → S k ∧ ¬ v.ownBlock = some k) (hg : w.heap.size = g) (hb : n + 1 ≤ 1000000000) :
  ∃ v' w', (Builtin.append_ #[59, 59] ty #[v, .slice (some ⟨g, 0, none⟩) 1 1]).run Tryz.prog (w.alloc (.cells #[.int .i64 e.k, x] 42)) = .ok v' w' ∧ IsEnts (fun k => S k ∨ w.heap.size ≤ k) w' v' (n + 1) (l ++ [e]) ∧ Mod (fun k => v.ownBlock = some k) w w' ∧ ∀ k, v'.ownBlock = some k → v.ownBlock = some k ∨ w.heap.size ≤ k := by
 obtain ⟨i0, hi, hz0, hz1, hz2⟩ := info_parts info_entry
 obtain ⟨h0, vs, h1, h2⟩ := h
 have hm : Mod Go.Proofs.YtdfahddpkkeldaaGreat.nil w (w.alloc (.cells #[.int .i64 e.k, x] 42)) := (Mod.refl _ w).alloc _
 have hone : x.oneCell' = true := by obtain ⟨p, c, rfl, _⟩ := hx; rfl
 obtain ⟨v', w', hr, h3, h4⟩ := vec_append (P := Tryz.prog) 59 ty 42 i0 _ 2 32 Tryz.underlying59 hi hz0 hz1 hz2 rfl (by omega) (show IsVec (fun k => v.ownBlock = some k) _ _ _ _ _ _ from ⟨(h1.modNil hm).1, fun _ h => h⟩) (cellsTwo w 42 (.int .i64 e.k) x g hg) rfl (by
  intro u hu
  rcases List.mem_cons.1 hu with rfl | hu
  ·rfl
  ·rw [List.mem_singleton.1 hu]; exact hone) (by unfold maxLen; omega) (by omega)
 rw [← ensC_snoc e x l vs (each2_length h2)] at h3
 have hob : ∀ k, v.ownBlock = some k → k < w.heap.size := fun k hk => by
  rcases h1.1.2 with ⟨rfl, _⟩ | ⟨g', cap, cur, rfl, _, hh, _⟩
  ·simp [Value.ownBlock] at hk
  ·simp [Value.ownBlock] at hk
   subst hk
   exact heap_lt hh
 have hmw : Mod (fun k => v.ownBlock = some k) w w' := hm.ofNil.trans h4 (fun _ _ h => h)
 refine ⟨v', w', hr, ⟨by rw [List.length_append, h0]; rfl, _, h3.mono (fun k _ hk => hk.elim (fun h => .inl (h1.2 k h)) (fun h => .inr (Nat.le_trans hm.size h))), each2_snoc ?_ (each2_imp (fun a b r => ?_) h2)⟩, hmw, fun k ho => (h3.2 k ho).imp id (fun h => Nat.le_trans hm.size h)⟩
 ·exact (hx.here.mod hmw (fun k _ hk ho => (hRS k hk.1).2 ho)).mono (fun k _ hk => ⟨.inl (hRS k hk.1).1, fun ho => by
   rcases h3.2 k ho with h' | h'
   ·exact (hRS k hk.1).2 h'
   ·have := hm.size; have := hk.2; omega⟩)
 ·exact (r.here.mod hmw (fun k _ hk ho => hk.1.2 ho)).mono (fun k _ hk => ⟨.inl hk.1.1, fun ho => by
   rcases h3.2 k ho with h' | h'
   ·exact hk.1.2 h'
   ·have := hm.size; have := hk.2; omega⟩)
end Go.Proofs.YtdfahddpkkeldaaGreat

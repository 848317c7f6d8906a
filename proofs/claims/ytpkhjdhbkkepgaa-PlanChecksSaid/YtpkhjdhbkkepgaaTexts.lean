/- Slices of byte slices that the program made itself. -/
import Derived.Test.YtpkhjdhbkkepgaaRowB
namespace Go.Proofs.Ytpkhjdhbkkepgaa
open Go.RowKit
/-- both lists, one by one -/
def Each2 {α β : Type} (R : α → β → Prop) : List α → List β → Prop
  | [], [] => True
  | a :: l, b :: m => R a b ∧ Each2 R l m
  | _, _ => False
theorem each2_length {α β : Type} {R : α → β → Prop} : ∀ {l : List α} {m : List β}, Each2 R l m → l.length = m.length
  | [], [], _ => rfl
  | _ :: _, _ :: _, h => by simp [each2_length h.2]
  | [], _ :: _, h => h.elim
  | _ :: _, [], h => h.elim
theorem each2_imp {α β : Type} {R R' : α → β → Prop} (hi : ∀ a b, R a b → R' a b) : ∀ {l : List α} {m : List β}, Each2 R l m → Each2 R' l m
  | [], [], _ => trivial
  | _ :: _, _ :: _, h => ⟨hi _ _ h.1, each2_imp hi h.2⟩
  | [], _ :: _, h => h.elim
  | _ :: _, [], h => h.elim
theorem each2_snoc {α β : Type} {R : α → β → Prop} {a : α} {b : β} (hab : R a b) : ∀ {l : List α} {m : List β}, Each2 R l m → Each2 R (l ++ [a]) (m ++ [b])
  | [], [], _ => ⟨hab, trivial⟩
  | _ :: _, _ :: _, h => ⟨h.1, each2_snoc hab h.2⟩
  | [], _ :: _, h => h.elim
  | _ :: _, [], h => h.elim
theorem each2_get {α β : Type} {R : α → β → Prop} : ∀ {l : List α} {m : List β}, Each2 R l m → ∀ i, (h : i < l.length) → ∃ h' : i < m.length, R l[i] m[i]
  | a :: l, b :: m, h, 0, _ => ⟨by simp, h.1⟩
  | a :: l, b :: m, h, i + 1, hi => by
    obtain ⟨h1, h2⟩ := each2_get h.2 i (by simpa using hi)
    exact ⟨by simpa using h1, h2⟩
  | [], [], _, i, hi => absurd hi (by simp)
  | a :: l, [], h, _, _ => h.elim
  | [], b :: m, h, _, _ => h.elim
/-- v is a slice of n texts, all of it in blocks of S: the list l; no text lies in the slice's own block -/
def IsTexts (S : Nat → Prop) (w : World) (v : Value) (n : Nat) (l : List (List UInt8)) : Prop :=
  ∃ vs, IsVec S w 28 1 v n vs ∧ Each2 (fun x t => IsRow (fun k => S k ∧ ¬ v.ownBlock = some k) w x (bys t)) vs l
theorem IsTexts.nil (S : Nat → Prop) (w : World) : IsTexts S w (.slice none 0 0) 0 [] := ⟨[], IsVec.nil _ _ _ _, trivial⟩
theorem IsTexts.len {S : Nat → Prop} {w : World} {v : Value} {n : Nat} {l : List (List UInt8)} (h : IsTexts S w v n l) : l.length = n := by
  obtain ⟨vs, h1, h2⟩ := h
  rw [← each2_length h2, h1.len, Nat.mul_one]
theorem IsTexts.form {S : Nat → Prop} {w : World} {v : Value} {n : Nat} {l : List (List UInt8)} (h : IsTexts S w v n l) : ∃ p c, v = .slice p n c := by
  obtain ⟨vs, h1, h2⟩ := h
  exact h1.form
theorem IsTexts.mod {S T : Nat → Prop} {w w' : World} {v : Value} {n : Nat} {l : List (List UInt8)} (h : IsTexts S w v n l) (m : Mod T w w') (hs : ∀ k, k < w.heap.size → S k → ¬ T k) : IsTexts S w' v n l := by
  obtain ⟨vs, h1, h2⟩ := h
  exact ⟨vs, h1.mod m hs, each2_imp (fun a b r => r.mod m (fun k hk h => hs k hk h.1)) h2⟩
theorem IsTexts.modNil {S : Nat → Prop} {w w' : World} {v : Value} {n : Nat} {l : List (List UInt8)} (h : IsTexts S w v n l) (m : Mod Go.Proofs.Ytpkhjdhbkkepgaa.nil w w') : IsTexts S w' v n l := h.mod m (fun _ _ _ f => f)
theorem IsTexts.mono {S T : Nat → Prop} {w : World} {v : Value} {n : Nat} {l : List (List UInt8)} (h : IsTexts S w v n l) (hs : ∀ k, k < w.heap.size → S k → T k) : IsTexts T w v n l := by
  obtain ⟨vs, h1, h2⟩ := h
  exact ⟨vs, h1.mono hs, each2_imp (fun a b r => r.mono (fun k hk h => ⟨hs k hk h.1, h.2⟩)) h2⟩
theorem IsTexts.own {S : Nat → Prop} {w : World} {v : Value} {n : Nat} {l : List (List UInt8)} (h : IsTexts S w v n l) {k : Nat} (hk : v.ownBlock = some k) : S k ∧ k < w.heap.size := by
  obtain ⟨vs, h1, h2⟩ := h
  refine ⟨h1.2 k hk, ?_⟩
  rcases h1.1.2 with ⟨rfl, _⟩ | ⟨g', cap, cur, rfl, _, hh, _⟩
  · simp [Value.ownBlock] at hk
  · simp [Value.ownBlock] at hk
    subst hk
    exact heap_lt hh
/-- one of the texts -/
theorem IsTexts.at {S : Nat → Prop} {w : World} {p : Option Addr} {n c : Nat} {l : List (List UInt8)} (h : IsTexts S w (.slice p n c) n l) (i : Nat) (hi : i < n) :
    ∃ g x, p = some ⟨g, 0, none⟩ ∧ g < w.heap.size ∧ w.cell? ⟨g, i, none⟩ = some x ∧ IsRow S w x (bys (l.getD i [])) := by
  obtain ⟨vs, h1, h2⟩ := h
  have hvl : vs.length = n := by have := h1.len; omega
  obtain ⟨g, rfl, -, hg⟩ := vecBlock h1 (by omega)
  obtain ⟨p', c', hp, hcc⟩ := h1.row
  simp only [Value.slice.injEq] at hp
  obtain ⟨rfl, -, -⟩ := hp
  obtain ⟨b, off, q1, q2, q3, q4⟩ := hcc i (by omega)
  simp only [Option.some.injEq, Addr.mk.injEq, and_true] at q1
  obtain ⟨rfl, rfl⟩ := q1
  obtain ⟨h', hr⟩ := each2_get h2 i (by omega)
  rw [Nat.zero_add] at q4
  refine ⟨g, vs[i], rfl, hg, by rw [q4, List.getD_eq_getElem?_getD, List.getElem?_eq_getElem (by omega)]; rfl, ?_⟩
  rw [List.getD_eq_getElem?_getD, List.getElem?_eq_getElem h']
  exact hr.mono (fun k _ h => h.1)
theorem info_text : (Try.prog.info? 28).map (fun i => (i.zero, i.size, i.bytes)) = some (some (.slice none 0 0), 1, 24) := by kernel_rfl
theorem cellsOne (w : World) (E : TypeId) (u : Value) (g : Nat) (hg : w.heap.size = g) : IsCells (· = g) (w.alloc (.cells #[u] E)) (.slice (some ⟨g, 0, none⟩) 1 1) 1 [u] := by
  subst hg
  refine ⟨_, 1, rfl, fun i hi => ⟨w.heap.size, 0, rfl, rfl, by simp, ?_⟩⟩
  have : i = 0 := by simpa using hi
  subst this
  rw [cell_of (heap_alloc_new w (.cells #[u] E))]; rfl
end Go.Proofs.Ytpkhjdhbkkepgaa

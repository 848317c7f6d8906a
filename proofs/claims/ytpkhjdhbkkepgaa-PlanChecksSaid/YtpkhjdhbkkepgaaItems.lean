/- Slices of ring.Item, and slices of them. -/
import Derived.Test.YtpkhjdhbkkepgaaTexts
namespace Go.Proofs.Ytpkhjdhbkkepgaa
open Go.RowKit
structure It where
  led : Int
  asset : Int
  amt : Int
deriving DecidableEq
def It.vals (x : It) : List Value := [.int .i64 x.led, .int .i64 x.asset, .int .i64 x.amt]
def its (l : List It) : List Value := l.flatMap It.vals
theorem its_cons (x : It) (l : List It) : its (x :: l) = x.vals ++ its l := rfl
theorem its_append (l m : List It) : its (l ++ m) = its l ++ its m := by simp [its]
theorem its_length : ∀ l : List It, (its l).length = l.length * 3
  | [] => rfl
  | x :: l => by rw [its_cons, List.length_append, its_length l, List.length_cons]; simp [It.vals]; omega
theorem its_get : ∀ (l : List It) (i j : Nat) (x : It), l[i]? = some x → j < 3 → (its l)[3 * i + j]? = x.vals[j]?
  | y :: l, 0, j, x, h, hj => by
    simp at h
    subst h
    rw [its_cons, Nat.mul_zero, Nat.zero_add, List.getElem?_append_left (by simp [It.vals]; exact hj)]
  | y :: l, i + 1, j, x, h, hj => by
    rw [its_cons, List.getElem?_append_right (by simp [It.vals]; omega), show 3 * (i + 1) + j - y.vals.length = 3 * i + j by simp [It.vals]; omega]
    exact its_get l i j x (by simpa using h) hj
def IsIts (S : Nat → Prop) (w : World) (v : Value) (l : List It) : Prop := IsCells S w v l.length (its l)
/-- one of the items: its three cells -/
theorem IsIts.at {S : Nat → Prop} {w : World} {p : Option Addr} {n c : Nat} {l : List It} (h : IsIts S w (.slice p n c) l) (i : Nat) (hi : i < l.length) :
    ∃ b off, p = some ⟨b, off, none⟩ ∧ S b ∧ b < w.heap.size ∧ w.cell? ⟨b, off + i * 3, none⟩ = some (.int .i64 l[i].led) ∧ w.cell? ⟨b, off + i * 3 + 1, none⟩ = some (.int .i64 l[i].asset) ∧ w.cell? ⟨b, off + i * 3 + 2, none⟩ = some (.int .i64 l[i].amt) := by
  obtain ⟨p', c', hv, hc⟩ := h
  simp only [Value.slice.injEq] at hv
  obtain ⟨rfl, -, -⟩ := hv
  have hl := its_length l
  have hx : ∀ j, j < 3 → ∃ b off, p = some ⟨b, off, none⟩ ∧ S b ∧ b < w.heap.size ∧ w.cell? ⟨b, off + (3 * i + j), none⟩ = some (l[i].vals.getD j undef) := fun j hj => by
    obtain ⟨b, off, h1, h2, h3, h4⟩ := hc (3 * i + j) (by omega)
    refine ⟨b, off, h1, h2, h3, ?_⟩
    rw [h4, List.getD_eq_getElem?_getD, List.getD_eq_getElem?_getD, its_get l i j l[i] (List.getElem?_eq_getElem hi) hj]
  obtain ⟨b, off, rfl, h2, h3, h4⟩ := hx 0 (by omega)
  obtain ⟨b1, off1, e1, -, -, h5⟩ := hx 1 (by omega)
  obtain ⟨b2, off2, e2, -, -, h6⟩ := hx 2 (by omega)
  simp only [Option.some.injEq, Addr.mk.injEq, and_true] at e1 e2
  obtain ⟨rfl, rfl⟩ := e1
  obtain ⟨rfl, rfl⟩ := e2
  refine ⟨b, off, rfl, h2, h3, ?_, ?_, ?_⟩
  · rw [show off + i * 3 = off + (3 * i + 0) by omega]; exact h4
  · rw [show off + i * 3 + 1 = off + (3 * i + 1) by omega]; exact h5
  · rw [show off + i * 3 + 2 = off + (3 * i + 2) by omega]; exact h6
theorem IsIts.form {S : Nat → Prop} {w : World} {v : Value} {l : List It} (h : IsIts S w v l) : ∃ p c, v = .slice p l.length c := by
  obtain ⟨p, c, hv, -⟩ := h
  exact ⟨p, c, hv⟩
theorem IsIts.mono {S T : Nat → Prop} {w : World} {v : Value} {l : List It} (h : IsIts S w v l) (hs : ∀ k, k < w.heap.size → S k → T k) : IsIts T w v l := by
  obtain ⟨p, c, hv, hc⟩ := h
  exact ⟨p, c, hv, fun i hi => by obtain ⟨b, off, h1, h2, h3, h4⟩ := hc i hi; exact ⟨b, off, h1, hs b h3 h2, h3, h4⟩⟩
theorem IsIts.mod {S T : Nat → Prop} {w w' : World} {v : Value} {l : List It} (h : IsIts S w v l) (m : Mod T w w') (hs : ∀ k, k < w.heap.size → S k → ¬ T k) : IsIts S w' v l := IsCells.mod h m hs
theorem IsIts.modNil {S : Nat → Prop} {w w' : World} {v : Value} {l : List It} (h : IsIts S w v l) (m : Mod Go.Proofs.Ytpkhjdhbkkepgaa.nil w w') : IsIts S w' v l := h.mod m (fun _ _ _ f => f)
/-- a slice of slices of items -/
def IsLegs (S : Nat → Prop) (w : World) (v : Value) (ls : List (List It)) : Prop := ∃ vs, IsRow S w v vs ∧ Each2 (fun x l => IsIts S w x l) vs ls
theorem IsLegs.form {S : Nat → Prop} {w : World} {v : Value} {ls : List (List It)} (h : IsLegs S w v ls) : ∃ p c, v = .slice p ls.length c := by
  obtain ⟨vs, ⟨p, c, hv, -⟩, h2⟩ := h
  rw [each2_length h2] at hv
  exact ⟨p, c, hv⟩
theorem IsLegs.mono {S T : Nat → Prop} {w : World} {v : Value} {ls : List (List It)} (h : IsLegs S w v ls) (hs : ∀ k, k < w.heap.size → S k → T k) : IsLegs T w v ls := by
  obtain ⟨vs, h1, h2⟩ := h
  exact ⟨vs, h1.mono hs, each2_imp (fun _ _ r => r.mono hs) h2⟩
theorem IsLegs.mod {S T : Nat → Prop} {w w' : World} {v : Value} {ls : List (List It)} (h : IsLegs S w v ls) (m : Mod T w w') (hs : ∀ k, k < w.heap.size → S k → ¬ T k) : IsLegs S w' v ls := by
  obtain ⟨vs, h1, h2⟩ := h
  exact ⟨vs, h1.mod m hs, each2_imp (fun _ _ r => r.mod m hs) h2⟩
theorem IsLegs.modNil {S : Nat → Prop} {w w' : World} {v : Value} {ls : List (List It)} (h : IsLegs S w v ls) (m : Mod Go.Proofs.Ytpkhjdhbkkepgaa.nil w w') : IsLegs S w' v ls := h.mod m (fun _ _ _ f => f)
theorem IsLegs.at {S : Nat → Prop} {w : World} {p : Option Addr} {n c : Nat} {ls : List (List It)} (h : IsLegs S w (.slice p n c) ls) (i : Nat) (hi : i < ls.length) :
    ∃ b off x, p = some ⟨b, off, none⟩ ∧ S b ∧ b < w.heap.size ∧ w.cell? ⟨b, off + i, none⟩ = some x ∧ IsIts S w x ls[i] := by
  obtain ⟨vs, ⟨p', c', hv, hc⟩, h2⟩ := h
  simp only [Value.slice.injEq] at hv
  obtain ⟨rfl, -, -⟩ := hv
  have hl := each2_length h2
  obtain ⟨b, off, h1, h3, h4, h5⟩ := hc i (by omega)
  obtain ⟨h', hr⟩ := each2_get h2 i (by omega)
  refine ⟨b, off, vs[i], h1, h3, h4, ?_, hr⟩
  rw [h5, List.getD_eq_getElem?_getD, List.getElem?_eq_getElem (by omega)]; rfl
end Go.Proofs.Ytpkhjdhbkkepgaa

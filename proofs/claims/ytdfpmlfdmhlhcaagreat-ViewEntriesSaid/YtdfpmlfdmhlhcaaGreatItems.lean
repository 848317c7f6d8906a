/- Slices of byte slices that the program made itself. -/
import Derived.Test.YtdfpmlfdmhlhcaaGreatRowB
import Derived.Laws.IdiomStrings
import Derived.Lib.BufferRead
namespace Go.Proofs.YtdfpmlfdmhlhcaaGreat
open Go.RowKit
/-- both lists, one by one -/
def Each2 {α β : Type} (R : α → β → Prop) : List α → List β → Prop
  | [], [] => True
  | a :: l, b :: m => R a b ∧ Each2 R l m
  | _, _ => False
theorem each2_length {α β : Type} {R : α → β → Prop} : ∀ {l : List α} {m : List β}, Each2 R l m → l.length = m.length
  | [], [], _ => rfl
  | _ :: _, _ :: _, h => by simp [each2_length h.2]
  | [], _ :: _, h => h.elim
  | _ :: _, [], h => h.elim
theorem each2_imp {α β : Type} {R R' : α → β → Prop} (hi : ∀ a b, R a b → R' a b) : ∀ {l : List α} {m : List β}, Each2 R l m → Each2 R' l m
  | [], [], _ => trivial
  | _ :: _, _ :: _, h => ⟨hi _ _ h.1, each2_imp hi h.2⟩
  | [], _ :: _, h => h.elim
  | _ :: _, [], h => h.elim
theorem each2_snoc {α β : Type} {R : α → β → Prop} {a : α} {b : β} (hab : R a b) : ∀ {l : List α} {m : List β}, Each2 R l m → Each2 R (l ++ [a]) (m ++ [b])
  | [], [], _ => ⟨hab, trivial⟩
  | _ :: _, _ :: _, h => ⟨h.1, each2_snoc hab h.2⟩
  | [], _ :: _, h => h.elim
  | _ :: _, [], h => h.elim
theorem each2_get {α β : Type} {R : α → β → Prop} : ∀ {l : List α} {m : List β}, Each2 R l m → ∀ i, (h : i < l.length) → ∃ h' : i < m.length, R l[i] m[i]
  | a :: l, b :: m, h, 0, _ => ⟨by simp, h.1⟩
  | a :: l, b :: m, h, i + 1, hi => by
    obtain ⟨h1, h2⟩ := each2_get h.2 i (by simpa using hi)
    exact ⟨by simpa using h1, h2⟩
  | [], [], _, i, hi => absurd hi (by simp)
  | a :: l, [], h, _, _ => h.elim
  | [], b :: m, h, _, _ => h.elim
/-- v is a slice of n texts, all of it in blocks of S: the list l; no text lies in the slice's own block -/
def IsTexts (S : Nat → Prop) (w : World) (v : Value) (n : Nat) (l : List (List UInt8)) : Prop :=
  ∃ vs, IsVec S w 26 1 v n vs ∧ Each2 (fun x t => IsRow (fun k => S k ∧ ¬ v.ownBlock = some k) w x (bys t)) vs l
theorem IsTexts.nil (S : Nat → Prop) (w : World) : IsTexts S w (.slice none 0 0) 0 [] := ⟨[], IsVec.nil _ _ _ _, trivial⟩
theorem IsTexts.len {S : Nat → Prop} {w : World} {v : Value} {n : Nat} {l : List (List UInt8)} (h : IsTexts S w v n l) : l.length = n := by
  obtain ⟨vs, h1, h2⟩ := h
  rw [← each2_length h2, h1.len, Nat.mul_one]
theorem IsTexts.form {S : Nat → Prop} {w : World} {v : Value} {n : Nat} {l : List (List UInt8)} (h : IsTexts S w v n l) : ∃ p c, v = .slice p n c := by
  obtain ⟨vs, h1, h2⟩ := h
  exact h1.form
theorem IsTexts.mod {S T : Nat → Prop} {w w' : World} {v : Value} {n : Nat} {l : List (List UInt8)} (h : IsTexts S w v n l) (m : Mod T w w') (hs : ∀ k, k < w.heap.size → S k → ¬ T k) : IsTexts S w' v n l := by
  obtain ⟨vs, h1, h2⟩ := h
  exact ⟨vs, h1.mod m hs, each2_imp (fun a b r => r.mod m (fun k hk h => hs k hk h.1)) h2⟩
theorem IsTexts.modNil {S : Nat → Prop} {w w' : World} {v : Value} {n : Nat} {l : List (List UInt8)} (h : IsTexts S w v n l) (m : Mod Go.Proofs.YtdfpmlfdmhlhcaaGreat.nil w w') : IsTexts S w' v n l := h.mod m (fun _ _ _ f => f)
theorem IsTexts.mono {S T : Nat → Prop} {w : World} {v : Value} {n : Nat} {l : List (List UInt8)} (h : IsTexts S w v n l) (hs : ∀ k, k < w.heap.size → S k → T k) : IsTexts T w v n l := by
  obtain ⟨vs, h1, h2⟩ := h
  exact ⟨vs, h1.mono hs, each2_imp (fun a b r => r.mono (fun k hk h => ⟨hs k hk h.1, h.2⟩)) h2⟩
theorem IsTexts.own {S : Nat → Prop} {w : World} {v : Value} {n : Nat} {l : List (List UInt8)} (h : IsTexts S w v n l) {k : Nat} (hk : v.ownBlock = some k) : S k ∧ k < w.heap.size := by
  obtain ⟨vs, h1, h2⟩ := h
  refine ⟨h1.2 k hk, ?_⟩
  rcases h1.1.2 with ⟨rfl, _⟩ | ⟨g', cap, cur, rfl, _, hh, _⟩
  · simp [Value.ownBlock] at hk
  · simp [Value.ownBlock] at hk
    subst hk
    exact heap_lt hh
/-- one of the texts -/
theorem IsTexts.at {S : Nat → Prop} {w : World} {p : Option Addr} {n c : Nat} {l : List (List UInt8)} (h : IsTexts S w (.slice p n c) n l) (i : Nat) (hi : i < n) :
    ∃ g x, p = some ⟨g, 0, none⟩ ∧ g < w.heap.size ∧ w.cell? ⟨g, i, none⟩ = some x ∧ IsRow S w x (bys (l.getD i [])) := by
  obtain ⟨vs, h1, h2⟩ := h
  have hvl : vs.length = n := by have := h1.len; omega
  obtain ⟨g, rfl, -, hg⟩ := vecBlock h1 (by omega)
  obtain ⟨p', c', hp, hcc⟩ := h1.row
  simp only [Value.slice.injEq] at hp
  obtain ⟨rfl, -, -⟩ := hp
  obtain ⟨b, off, q1, q2, q3, q4⟩ := hcc i (by omega)
  simp only [Option.some.injEq, Addr.mk.injEq, and_true] at q1
  obtain ⟨rfl, rfl⟩ := q1
  obtain ⟨h', hr⟩ := each2_get h2 i (by omega)
  rw [Nat.zero_add] at q4
  refine ⟨g, vs[i], rfl, hg, by rw [q4, List.getD_eq_getElem?_getD, List.getElem?_eq_getElem (by omega)]; rfl, ?_⟩
  rw [List.getD_eq_getElem?_getD, List.getElem?_eq_getElem h']
  exact hr.mono (fun k _ h => h.1)
theorem info_text : (Tryz.prog.info? 26).map (fun i => (i.zero, i.size, i.bytes)) = some (some (.slice none 0 0), 1, 24) := by kernel_rfl
theorem cellsOne (w : World) (E : TypeId) (u : Value) (g : Nat) (hg : w.heap.size = g) : IsCells (· = g) (w.alloc (.cells #[u] E)) (.slice (some ⟨g, 0, none⟩) 1 1) 1 [u] := by
  subst hg
  refine ⟨_, 1, rfl, fun i hi => ⟨w.heap.size, 0, rfl, rfl, by simp, ?_⟩⟩
  have : i = 0 := by simpa using hi
  subst this
  rw [cell_of (heap_alloc_new w (.cells #[u] E))]; rfl
end Go.Proofs.YtdfpmlfdmhlhcaaGreat

/- Bytes as texts; cflref.Bytes. -/
namespace Go.Proofs.YtdfpmlfdmhlhcaaGreat
open Go.RowKit

/-- a row of bytes as a text -/
theorem rowText {T : Nat → Prop} {w : World} {v : Value} {l : List UInt8} (h : IsRow T w v (bys l)) :
    (convert 26 9 v).run Tryz.prog w = .ok (.string ⟨l.toArray⟩) w := by
  obtain ⟨p, c, rfl, hc⟩ := h
  rw [bys_length] at *
  cases p with
  | none =>
    have h0 : l = [] := by
      rcases l with _ | ⟨a, l⟩
      · rfl
      · obtain ⟨b, off, h1, _⟩ := hc 0 (by simp); cases h1
    subst h0
    exact Lib.run_convert_nil_bytes w _ _ 5 c Tryz.underlying26 Tryz.underlying5 Tryz.underlying9
  | some a =>
    refine run_convert_bytes_back w _ _ 5 a c l Tryz.underlying26 Tryz.underlying5 Tryz.underlying9 (fun j hj => ?_)
    obtain ⟨b, off, h1, _, _, h2⟩ := hc j hj
    simp only [Option.some.injEq] at h1
    subst h1
    have e : (⟨b, off, none⟩ : Addr).add j = ⟨b, off + j, none⟩ := by unfold Addr.add; split <;> simp_all
    rw [e, h2, bys_getD _ _ hj]
    simp [hj]
theorem refBytesSame (S T : Nat → Prop) (va vb : Value) (la lb : List UInt8) (w : World) (ha : IsRow S w va (bys la)) (hb : IsRow T w vb (bys lb)) :
    Calls Tryz.prog 49 #[va, vb] w fun e w' => e = .returned (.bool (decide (la = lb))) ∧ w = w' := by
  have ra := rowText (ha.modNil (Mod.refl nil w))
  have rb := rowText (hb.modNil (Mod.refl nil w))
  obtain ⟨pa, ca, rfl, _⟩ := ha
  obtain ⟨pb, cb, rfl, _⟩ := hb
  go_enter Tryz.func49, Tryz.ntmps49
  go_wp2_with fail
  go_ret
  exact ⟨congrArg Ending.returned (congrArg Value.bool (show (la == lb) = decide (la = lb) from by rw [Bool.eq_iff_iff]; simp)), rfl⟩
end Go.Proofs.YtdfpmlfdmhlhcaaGreat

/- bytes.Clone, bytes.Equal. -/
namespace Go.Proofs.YtdfpmlfdmhlhcaaGreat
open Go.RowKit
end Go.Proofs.YtdfpmlfdmhlhcaaGreat

/- cflref.Bytes and cflref.Lists. -/
namespace Go.Proofs.YtdfpmlfdmhlhcaaGreat
open Go.RowKit
theorem list_eq (la lb : List UInt8) : (la == lb) = decide (la = lb) := by rw [Bool.eq_iff_iff]; simp
theorem list_ne (la lb : List UInt8) : (la != lb) = !decide (la = lb) := by rw [bne, list_eq]
theorem refBytesW (S T : Nat → Prop) (va vb : Value) (la lb : List UInt8) (w : World) (ha : IsRow S w va (bys la)) (hb : IsRow T w vb (bys lb)) :
    Calls Tryz.prog 49 #[va, vb] w fun e w' => e = .returned (.bool (decide (la = lb))) ∧ w = w' := by
  have ra := rowText (ha.modNil (Mod.refl nil w))
  have rb := rowText (hb.modNil (Mod.refl nil w))
  obtain ⟨pa, ca, rfl, _⟩ := ha
  obtain ⟨pb, cb, rfl, _⟩ := hb
  go_enter Tryz.func49, Tryz.ntmps49
  go_wp2_with fail
  go_ret
  exact ⟨congrArg Ending.returned (congrArg Value.bool (list_eq la lb)), rfl⟩
end Go.Proofs.YtdfpmlfdmhlhcaaGreat

/- Slices of ring.Item, and slices of them. -/
namespace Go.Proofs.YtdfpmlfdmhlhcaaGreat
open Go.RowKit
structure It where
  led : Int
  asset : Int
  amt : Int
deriving DecidableEq
def It.vals (x : It) : List Value := [.int .i64 x.led, .int .i64 x.asset, .int .i64 x.amt]
def its (l : List It) : List Value := l.flatMap It.vals
theorem its_cons (x : It) (l : List It) : its (x :: l) = x.vals ++ its l := rfl
theorem its_append (l m : List It) : its (l ++ m) = its l ++ its m := by simp [its]
theorem its_length : ∀ l : List It, (its l).length = l.length * 3
  | [] => rfl
  | x :: l => by rw [its_cons, List.length_append, its_length l, List.length_cons]; simp [It.vals]; omega
theorem its_get : ∀ (l : List It) (i j : Nat) (x : It), l[i]? = some x → j < 3 → (its l)[3 * i + j]? = x.vals[j]?
  | y :: l, 0, j, x, h, hj => by
    simp at h
    subst h
    rw [its_cons, Nat.mul_zero, Nat.zero_add, List.getElem?_append_left (by simp [It.vals]; exact hj)]
  | y :: l, i + 1, j, x, h, hj => by
    rw [its_cons, List.getElem?_append_right (by simp [It.vals]; omega), show 3 * (i + 1) + j - y.vals.length = 3 * i + j by simp [It.vals]; omega]
    exact its_get l i j x (by simpa using h) hj
def IsIts (S : Nat → Prop) (w : World) (v : Value) (l : List It) : Prop := IsCells S w v l.length (its l)
/-- one of the items: its three cells -/
theorem IsIts.at {S : Nat → Prop} {w : World} {p : Option Addr} {n c : Nat} {l : List It} (h : IsIts S w (.slice p n c) l) (i : Nat) (hi : i < l.length) :
    ∃ b off, p = some ⟨b, off, none⟩ ∧ S b ∧ b < w.heap.size ∧ w.cell? ⟨b, off + i * 3, none⟩ = some (.int .i64 l[i].led) ∧ w.cell? ⟨b, off + i * 3 + 1, none⟩ = some (.int .i64 l[i].asset) ∧ w.cell? ⟨b, off + i * 3 + 2, none⟩ = some (.int .i64 l[i].amt) := by
  obtain ⟨p', c', hv, hc⟩ := h
  simp only [Value.slice.injEq] at hv
  obtain ⟨rfl, -, -⟩ := hv
  have hl := its_length l
  have hx : ∀ j, j < 3 → ∃ b off, p = some ⟨b, off, none⟩ ∧ S b ∧ b < w.heap.size ∧ w.cell? ⟨b, off + (3 * i + j), none⟩ = some (l[i].vals.getD j undef) := fun j hj => by
    obtain ⟨b, off, h1, h2, h3, h4⟩ := hc (3 * i + j) (by omega)
    refine ⟨b, off, h1, h2, h3, ?_⟩
    rw [h4, List.getD_eq_getElem?_getD, List.getD_eq_getElem?_getD, its_get l i j l[i] (List.getElem?_eq_getElem hi) hj]
  obtain ⟨b, off, rfl, h2, h3, h4⟩ := hx 0 (by omega)
  obtain ⟨b1, off1, e1, -, -, h5⟩ := hx 1 (by omega)
  obtain ⟨b2, off2, e2, -, -, h6⟩ := hx 2 (by omega)
  simp only [Option.some.injEq, Addr.mk.injEq, and_true] at e1 e2
  obtain ⟨rfl, rfl⟩ := e1
  obtain ⟨rfl, rfl⟩ := e2
  refine ⟨b, off, rfl, h2, h3, ?_, ?_, ?_⟩
  · rw [show off + i * 3 = off + (3 * i + 0) by omega]; exact h4
  · rw [show off + i * 3 + 1 = off + (3 * i + 1) by omega]; exact h5
  · rw [show off + i * 3 + 2 = off + (3 * i + 2) by omega]; exact h6
theorem IsIts.form {S : Nat → Prop} {w : World} {v : Value} {l : List It} (h : IsIts S w v l) : ∃ p c, v = .slice p l.length c := by
  obtain ⟨p, c, hv, -⟩ := h
  exact ⟨p, c, hv⟩
theorem IsIts.mono {S T : Nat → Prop} {w : World} {v : Value} {l : List It} (h : IsIts S w v l) (hs : ∀ k, k < w.heap.size → S k → T k) : IsIts T w v l := by
  obtain ⟨p, c, hv, hc⟩ := h
  exact ⟨p, c, hv, fun i hi => by obtain ⟨b, off, h1, h2, h3, h4⟩ := hc i hi; exact ⟨b, off, h1, hs b h3 h2, h3, h4⟩⟩
theorem IsIts.mod {S T : Nat → Prop} {w w' : World} {v : Value} {l : List It} (h : IsIts S w v l) (m : Mod T w w') (hs : ∀ k, k < w.heap.size → S k → ¬ T k) : IsIts S w' v l := IsCells.mod h m hs
theorem IsIts.modNil {S : Nat → Prop} {w w' : World} {v : Value} {l : List It} (h : IsIts S w v l) (m : Mod Go.Proofs.YtdfpmlfdmhlhcaaGreat.nil w w') : IsIts S w' v l := h.mod m (fun _ _ _ f => f)
/-- a slice of slices of items -/
def IsLegs (S : Nat → Prop) (w : World) (v : Value) (ls : List (List It)) : Prop := ∃ vs, IsRow S w v vs ∧ Each2 (fun x l => IsIts S w x l) vs ls
theorem IsLegs.form {S : Nat → Prop} {w : World} {v : Value} {ls : List (List It)} (h : IsLegs S w v ls) : ∃ p c, v = .slice p ls.length c := by
  obtain ⟨vs, ⟨p, c, hv, -⟩, h2⟩ := h
  rw [each2_length h2] at hv
  exact ⟨p, c, hv⟩
theorem IsLegs.mono {S T : Nat → Prop} {w : World} {v : Value} {ls : List (List It)} (h : IsLegs S w v ls) (hs : ∀ k, k < w.heap.size → S k → T k) : IsLegs T w v ls := by
  obtain ⟨vs, h1, h2⟩ := h
  exact ⟨vs, h1.mono hs, each2_imp (fun _ _ r => r.mono hs) h2⟩
theorem IsLegs.mod {S T : Nat → Prop} {w w' : World} {v : Value} {ls : List (List It)} (h : IsLegs S w v ls) (m : Mod T w w') (hs : ∀ k, k < w.heap.size → S k → ¬ T k) : IsLegs S w' v ls := by
  obtain ⟨vs, h1, h2⟩ := h
  exact ⟨vs, h1.mod m hs, each2_imp (fun _ _ r => r.mod m hs) h2⟩
theorem IsLegs.modNil {S : Nat → Prop} {w w' : World} {v : Value} {ls : List (List It)} (h : IsLegs S w v ls) (m : Mod Go.Proofs.YtdfpmlfdmhlhcaaGreat.nil w w') : IsLegs S w' v ls := h.mod m (fun _ _ _ f => f)
theorem IsLegs.at {S : Nat → Prop} {w : World} {p : Option Addr} {n c : Nat} {ls : List (List It)} (h : IsLegs S w (.slice p n c) ls) (i : Nat) (hi : i < ls.length) :
    ∃ b off x, p = some ⟨b, off, none⟩ ∧ S b ∧ b < w.heap.size ∧ w.cell? ⟨b, off + i, none⟩ = some x ∧ IsIts S w x ls[i] := by
  obtain ⟨vs, ⟨p', c', hv, hc⟩, h2⟩ := h
  simp only [Value.slice.injEq] at hv
  obtain ⟨rfl, -, -⟩ := hv
  have hl := each2_length h2
  obtain ⟨b, off, h1, h3, h4, h5⟩ := hc i (by omega)
  obtain ⟨h', hr⟩ := each2_get h2 i (by omega)
  refine ⟨b, off, vs[i], h1, h3, h4, ?_, hr⟩
  rw [h5, List.getD_eq_getElem?_getD, List.getElem?_eq_getElem (by omega)]; rfl
end Go.Proofs.YtdfpmlfdmhlhcaaGreat

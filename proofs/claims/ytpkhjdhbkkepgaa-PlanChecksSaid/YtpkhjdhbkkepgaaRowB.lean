/- Rows and vectors: fronts, capacities. -/
import Derived.Test.YtpkhjdhbkkepgaaBytes
import Derived.Laws.Tables
namespace Go.Proofs.Ytpkhjdhbkkepgaa
open Go.RowKit
theorem vecCap {S : Nat → Prop} {w : World} {E : TypeId} {sz n : Nat} {v : Value} {xs : List Value} (h : IsVec S w E sz v n xs) : ∃ p c, v = .slice p n c ∧ n ≤ c ∧ c ≤ maxLen := by
  rcases h.1.2 with ⟨rfl, rfl⟩ | ⟨g, cap, cur, rfl, _, _, h, hm, _⟩
  · exact ⟨_, _, rfl, Nat.le_refl _, by unfold maxLen; omega⟩
  · exact ⟨_, _, rfl, h, hm⟩
theorem bysTake (l : List UInt8) (n : Nat) : bys (l.take n) = (bys l).take n := by simp [bys, List.map_take]
theorem rowFront {S : Nat → Prop} {w : World} {p : Option Addr} {n c : Nat} {xs : List Value} (h : IsRow S w (.slice p n c) xs) (k : Nat) (hk : k ≤ xs.length) : IsRow S w (.slice p k c) (xs.take k) := by
  obtain ⟨p', c', hv, hc⟩ := h
  simp only [Value.slice.injEq] at hv
  obtain ⟨rfl, -, rfl⟩ := hv
  refine ⟨p, c, by rw [List.length_take, Nat.min_eq_left hk], fun i hi => ?_⟩
  rw [List.length_take] at hi
  obtain ⟨b, off, h1, h2, h3, h4⟩ := hc i (by omega)
  refine ⟨b, off, h1, h2, h3, ?_⟩
  rw [h4, List.getD_eq_getElem?_getD, List.getD_eq_getElem?_getD, List.getElem?_take_of_lt (by omega)]
/-- a block of an owned vector -/
theorem vecBlock {S : Nat → Prop} {w : World} {E : TypeId} {sz n : Nat} {p : Option Addr} {c : Nat} {xs : List Value} (h : IsVec S w E sz (.slice p n c) n xs) (hn : 0 < n) :
    ∃ b, p = some ⟨b, 0, none⟩ ∧ S b ∧ b < w.heap.size := by
  obtain ⟨⟨hl, h1⟩, h2⟩ := h
  rcases h1 with ⟨h, rfl⟩ | ⟨g, cap, cur, h, hg, hh, _⟩
  · omega
  · simp only [Value.slice.injEq] at h
    obtain ⟨rfl, -, rfl⟩ := h
    exact ⟨g, rfl, h2 g rfl, heap_lt hh⟩
theorem Mod.rowSet {S : Nat → Prop} {a w : World} (h : Mod S a w) (g : Nat) (cs : Array Value) (hg : g < a.heap.size → S g) : Mod S a (w.setRow g cs) :=
  ⟨h.os, h.tape, h.output, by simpa [World.setRow] using h.size, fun k hk hs => (setRow_other w g k cs (fun e => hs (e ▸ hg (e ▸ hk)))).trans (h.block k hk hs)⟩
theorem vec_set {S : Nat → Prop} {w : World} {E : TypeId} {v : Value} {n : Nat} {xs : List Value} (h : IsVec S w E 1 v n xs) (i : Nat) (hi : i < n) :
    ∃ g c, v = .slice (some ⟨g, 0, none⟩) n c ∧ S g ∧ g < w.heap.size ∧ w.cell? ⟨g, i, none⟩ = some (xs.getD i undef) ∧ w.frozen? ⟨g, i, none⟩ = false ∧ ∀ u : Value, u.oneCell' = true → IsVec S (w.setCell ⟨g, i, none⟩ u) E 1 v n (xs.set i u) := by
  obtain ⟨p, c, hv, hc⟩ := h.row
  have hl := h.len
  obtain ⟨b, off, hp, hS, hb, hcell⟩ := hc i (by omega)
  obtain ⟨⟨hlen, h1⟩, h2⟩ := h
  rcases h1 with ⟨_, h0⟩ | ⟨g, cap, cur, rfl, hg, hh, hn, hm, hs, ht⟩
  · omega
  · simp only [Value.slice.injEq] at hv
    obtain ⟨rfl, -, rfl⟩ := hv
    simp only [Option.some.injEq, Addr.mk.injEq, and_true] at hp
    obtain ⟨rfl, rfl⟩ := hp
    rw [Nat.zero_add] at hcell
    refine ⟨g, cap, rfl, hS, hb, hcell, free_of hh i, fun u hu => ⟨⟨by simpa using hlen, .inr ⟨g, cap, cur.setIfInBounds i u, rfl, hg, heap_setCell_same hh u, hn, hm, by simpa using hs, ?_⟩⟩, h2⟩⟩
    rw [← ht]
    simp [List.take_set]
end Go.Proofs.Ytpkhjdhbkkepgaa

/- Rings and plans as arguments. -/
import Derived.Test.YtdfpmlfdmhlhcaaGreatRd
import Derived.Test.YtdfpmlfdmhlhcaaGreatPlanE
namespace Go.Proofs.YtdfpmlfdmhlhcaaGreat
open Go.ChangeShapes Go.WideShapes Go.ChangeAt Go.RowKit
theorem IsIts.ofAt {S : Nat → Prop} {w : World} {p : Option Addr} {c : Nat} {l : List It} (h : ∀ i, (hi : i < l.length) → ∃ b off, p = some ⟨b, off, none⟩ ∧ S b ∧ b < w.heap.size ∧ ∀ j, j < 3 → w.cell? ⟨b, off + i * 3 + j, none⟩ = some (l[i].vals.getD j undef)) : IsIts S w (.slice p l.length c) l := by
  refine ⟨p, c, rfl, fun k hk => ?_⟩
  rw [its_length] at hk
  have hi : k / 3 < l.length := by omega
  obtain ⟨b, off, h1, h2, h3, h4⟩ := h (k / 3) hi
  refine ⟨b, off, h1, h2, h3, ?_⟩
  have h5 := h4 (k % 3) (by omega)
  rw [show off + k / 3 * 3 + k % 3 = off + k by omega] at h5
  rw [h5]
  have h6 := its_get l (k / 3) (k % 3) l[k / 3] (List.getElem?_eq_getElem hi) (by omega)
  rw [show 3 * (k / 3) + k % 3 = k by omega] at h6
  rw [List.getD_eq_getElem?_getD, List.getD_eq_getElem?_getD, h6]
set_option maxRecDepth 100000 in
theorem Rc.ints {w : World} {cs : List Value} (h : Rc w 22 cs) : ∃ (p : Option Addr) (len cap : Nat) (l : List Int), cs = [.slice p len cap] ∧ len ≤ cap ∧ cap ≤ maxLen ∧ l.length = len ∧ IsRow (· < w.heap.size) w (.slice p len cap) (l.map (Value.int .i64)) ∧ ∀ x ∈ l, (Lit.int .i64 x).wf = true := by
  have hc : Tryz.prog.cellsOf 3 = 1 := by kernel_rfl
  obtain ⟨p, len, cap, hv, hl, hm, hall⟩ := h.slice Tryz.underlying22 (by omega)
  have : ∀ i, i < len → ∃ x : Int, (Lit.int .i64 x).wf = true ∧ ∃ b off, p = some ⟨b, off, none⟩ ∧ b < w.heap.size ∧ w.cell? ⟨b, off + i, none⟩ = some (.int .i64 x) := by
    intro i hi
    obtain ⟨b, off, cs', hp, hb, hlen, hcell, hrc⟩ := hall i hi
    obtain ⟨x, rfl, hx⟩ := hrc.int Tryz.underlying3
    refine ⟨x, hx, b, off, hp, hb, ?_⟩
    have := hcell 0 (by simp)
    simpa [hc] using this
  obtain ⟨l, hlen, hP⟩ := choose_list this
  refine ⟨p, len, cap, l, hv, hl, hm, hlen, ⟨p, cap, by simp [hlen], fun i hi => ?_⟩, fun x hx => ?_⟩
  · simp at hi
    obtain ⟨_, b, off, hp, hb, hcell⟩ := hP i hi
    exact ⟨b, off, hp, hb, hb, by rw [hcell]; simp [hi]⟩
  · obtain ⟨i, hi, rfl⟩ := List.getElem_of_mem hx
    exact (hP i hi).1
set_option maxRecDepth 100000 in
theorem Rc.items {w : World} {cs : List Value} (h : Rc w 133 cs) : ∃ (p : Option Addr) (len cap : Nat) (l : List It), cs = [.slice p len cap] ∧ len ≤ cap ∧ cap ≤ maxLen ∧ l.length = len ∧ IsIts (· < w.heap.size) w (.slice p len cap) l := by
  have hc : Tryz.prog.cellsOf 135 = 3 := by kernel_rfl
  obtain ⟨p, len, cap, hv, hl, hm, hall⟩ := h.slice Tryz.underlying133 (by omega)
  have : ∀ i, i < len → ∃ x : It, ∃ b off, p = some ⟨b, off, none⟩ ∧ b < w.heap.size ∧ ∀ j, j < 3 → w.cell? ⟨b, off + i * 3 + j, none⟩ = some (x.vals.getD j undef) := by
    intro i hi
    obtain ⟨b, off, cs', hp, hb, hlen, hcell, hrc⟩ := hall i hi
    rw [hc] at hlen hcell
    obtain ⟨_, hf⟩ := hrc.struct Tryz.underlying135
    have hi1 : Tryz.prog.cellsOf 3 = 1 := by kernel_rfl
    match cs', hlen with
    | [c0, c1, c2], _ =>
      have f0 : Rc w 3 [c0] := by simpa [hi1] using hf 0 _ rfl
      have f1 : Rc w 3 [c1] := by simpa [hi1] using hf 1 _ rfl
      have f2 : Rc w 3 [c2] := by simpa [hi1] using hf 2 _ rfl
      obtain ⟨n0, h0, _⟩ := f0.int Tryz.underlying3
      obtain ⟨n1, h1, _⟩ := f1.int Tryz.underlying3
      obtain ⟨n2, h2, _⟩ := f2.int Tryz.underlying3
      simp at h0 h1 h2
      subst h0; subst h1; subst h2
      refine ⟨⟨n0, n1, n2⟩, b, off, hp, hb, fun j hj => ?_⟩
      rw [hcell j (by simpa using hj)]
      match j, hj with
      | 0, _ => rfl
      | 1, _ => rfl
      | 2, _ => rfl
  obtain ⟨l, hlen, hP⟩ := choose_list this
  refine ⟨p, len, cap, l, hv, hl, hm, hlen, ?_⟩
  subst hlen
  exact IsIts.ofAt (fun i hi => by obtain ⟨b, off, h1, h2, h3⟩ := hP i hi; exact ⟨b, off, h1, h2, h2, h3⟩)
set_option maxRecDepth 100000 in
theorem Rc.legs {w : World} {cs : List Value} (h : Rc w 23 cs) : ∃ (p : Option Addr) (len cap : Nat) (ls : List (List It)), cs = [.slice p len cap] ∧ len ≤ cap ∧ cap ≤ maxLen ∧ ls.length = len ∧ IsLegs (· < w.heap.size) w (.slice p len cap) ls ∧ ∀ l ∈ ls, l.length ≤ maxLen := by
  have hc : Tryz.prog.cellsOf 133 = 1 := by kernel_rfl
  obtain ⟨p, len, cap, hv, hl, hm, hall⟩ := h.slice Tryz.underlying23 (by omega)
  have : ∀ i, i < len → ∃ x : Value × List It, ∃ b off, p = some ⟨b, off, none⟩ ∧ b < w.heap.size ∧ w.cell? ⟨b, off + i, none⟩ = some x.1 ∧ IsIts (· < w.heap.size) w x.1 x.2 ∧ x.2.length ≤ maxLen := by
    intro i hi
    obtain ⟨b, off, cs', hp, hb, hlen, hcell, hrc⟩ := hall i hi
    obtain ⟨p', len', cap', l, rfl, h1, h2, h3, h4⟩ := hrc.items
    refine ⟨(.slice p' len' cap', l), b, off, hp, hb, ?_, h4, by simp only; omega⟩
    have := hcell 0 (by simp)
    simpa [hc] using this
  obtain ⟨xs, hlen, hP⟩ := choose_list this
  refine ⟨p, len, cap, xs.map (·.2), hv, hl, hm, by rw [List.length_map, hlen], ⟨xs.map (·.1), ⟨p, cap, by rw [List.length_map, hlen], fun i hi => ?_⟩, ?_⟩, fun l hl => ?_⟩
  · rw [List.length_map] at hi
    obtain ⟨b, off, h1, h2, h3, -⟩ := hP i hi
    exact ⟨b, off, h1, h2, h2, by rw [h3]; simp [hi]⟩
  · have : ∀ ys : List (Value × List It), (∀ i, (hi : i < ys.length) → IsIts (· < w.heap.size) w ys[i].1 ys[i].2) → Each2 (fun x l => IsIts (· < w.heap.size) w x l) (ys.map (·.1)) (ys.map (·.2)) := by
      intro ys
      induction ys with
      | nil => intro _; trivial
      | cons y ys ih =>
        intro hy
        exact ⟨hy 0 (by simp), ih (fun i hi => by have := hy (i + 1) (by simpa using hi); rw [List.getElem_cons_succ] at this; exact this)⟩
    exact this xs (fun i hi => by obtain ⟨b, off, h1, h2, h3, h4, -⟩ := hP i hi; exact h4)
  · obtain ⟨x, hx, rfl⟩ := List.mem_map.1 hl
    obtain ⟨i, hi, rfl⟩ := List.getElem_of_mem hx
    obtain ⟨b, off, h1, h2, h3, h4, h5⟩ := hP i hi
    exact h5
set_option maxRecDepth 100000 in
theorem Rd.ring {w : World} {v : Value} (h : Rd w 73 v) : ∃ (pp : Option Addr) (np cp : Nat) (ps : List Int) (pl : Option Addr) (nl cl : Nat) (ls : List (List It)), v = .agg #[.slice pp np cp, .slice pl nl cl] ∧ ps.length = np ∧ np ≤ maxLen ∧ IsRow (· < w.heap.size) w (.slice pp np cp) (ps.map (Value.int .i64)) ∧ ls.length = nl ∧ nl ≤ maxLen ∧ IsLegs (· < w.heap.size) w (.slice pl nl cl) ls ∧ ∀ l ∈ ls, l.length ≤ maxLen := by
  obtain ⟨cs, rfl, hl, hf⟩ := h.struct Tryz.underlying73
  have hc : Tryz.prog.cellsOf 73 = 2 := by kernel_rfl
  have h1 : Tryz.prog.cellsOf 22 = 1 := by kernel_rfl
  have h2 : Tryz.prog.cellsOf 23 = 1 := by kernel_rfl
  rw [hc] at hl
  match cs, hl with
  | [c0, c1], _ =>
    have f0 : Rc w 22 [c0] := by simpa [h1] using hf 0 _ rfl
    have f1 : Rc w 23 [c1] := by simpa [h2] using hf 1 _ rfl
    obtain ⟨pp, np, cp, ps, e0, a1, a2, a3, a4, -⟩ := f0.ints
    obtain ⟨pl, nl, cl, ls, e1, b1, b2, b3, b4, b5⟩ := f1.legs
    simp only [List.cons.injEq, and_true] at e0 e1
    subst e0; subst e1
    exact ⟨pp, np, cp, ps, pl, nl, cl, ls, rfl, a3, by omega, a4, b3, by omega, b4, b5⟩
end Go.Proofs.YtdfpmlfdmhlhcaaGreat

/- Slices that the program makes and appends to. 'IsVec S w E sz v n xs': v is nil, or it starts a block of its own, not frozen, which lies in S; it has n elements of type E (sz cells each), whose cells are xs. 'IsCells': a slice that is only read. Nothing of the program is named here. -/
import Derived.Laws.AppendOwn
import Derived.Laws.OwnMore
import Derived.Test.YtdfahddpkkeldaaGreatShort
namespace Go.Proofs.YtdfahddpkkeldaaGreat
open Go.RowKit
section
variable {P : Program}
def IsCells (S : Nat → Prop) (w : World) (v : Value) (n : Nat) (xs : List Value) : Prop :=
 ∃ p c, v = .slice p n c ∧ ∀ i, i < xs.length → ∃ b off, p = some ⟨b, off, none⟩ ∧ S b ∧ b < w.heap.size ∧ w.cell? ⟨b, off + i, none⟩ = some (xs.getD i undef)
theorem IsRow.cells {S : Nat → Prop} {w : World} {v : Value} {xs : List Value} (h : IsRow S w v xs) : IsCells S w v xs.length xs := h
theorem IsCells.mod {S T : Nat → Prop} {w w' : World} {v : Value} {n : Nat} {xs : List Value} (h : IsCells S w v n xs) (m : Mod T w w') (hs : ∀ i, i < w.heap.size → S i → ¬ T i) : IsCells S w' v n xs := by
 obtain ⟨p, c, rfl, hc⟩ := h
 refine ⟨p, c, rfl, fun i hi => ?_⟩
 obtain ⟨b, off, rfl, hS, hb, hx⟩ := hc i hi
 exact ⟨b, off, rfl, hS, Nat.lt_of_lt_of_le hb m.size, by rw [← hx]; exact World.cell?_of_block (w := w) (m.block b hb (hs b hb hS))⟩
theorem IsRow.mono {S T : Nat → Prop} {w : World} {v : Value} {xs : List Value} (h : IsRow S w v xs) (hs : ∀ i, i < w.heap.size → S i → T i) : IsRow T w v xs := by
 obtain ⟨p, c, rfl, hc⟩ := h
 refine ⟨p, c, rfl, fun i hi => ?_⟩
 obtain ⟨b, off, rfl, hS, hb, hx⟩ := hc i hi
 exact ⟨b, off, rfl, hs b hb hS, hb, hx⟩
/-- the row lies in blocks that are there -/
theorem IsRow.here {S : Nat → Prop} {w : World} {v : Value} {xs : List Value} (h : IsRow S w v xs) : IsRow (fun k => S k ∧ k < w.heap.size) w v xs := h.mono (fun _ hk h => ⟨h, hk⟩)
/-- every block that is there -/
def old (w : World) : Nat → Prop := fun k => k < w.heap.size
theorem IsRow.modNil {S : Nat → Prop} {w w' : World} {v : Value} {xs : List Value} (h : IsRow S w v xs) (m : Mod nil w w') : IsRow S w' v xs := h.mod m (fun _ _ _ f => f)
theorem IsCells.modNil {S : Nat → Prop} {w w' : World} {v : Value} {n : Nat} {xs : List Value} (h : IsCells S w v n xs) (m : Mod nil w w') : IsCells S w' v n xs := h.mod m (fun _ _ _ f => f)
def IsVec (S : Nat → Prop) (w : World) (E : TypeId) (sz : Nat) (v : Value) (n : Nat) (xs : List Value) : Prop :=
 w.ownsRow 0 E sz v n xs ∧ ∀ k, v.ownBlock = some k → S k
theorem IsVec.nil (S : Nat → Prop) (w : World) (E : TypeId) (sz : Nat) : IsVec S w E sz (.slice none 0 0) 0 [] := ⟨World.ownsRow_nil w 0 E sz, fun k h => by simp [Value.ownBlock] at h⟩
theorem IsVec.mono {S T : Nat → Prop} {w : World} {E : TypeId} {sz n : Nat} {v : Value} {xs : List Value} (h : IsVec S w E sz v n xs) (hs : ∀ k, k < w.heap.size → S k → T k) : IsVec T w E sz v n xs :=
 ⟨h.1, fun k hk => hs k (h.1.lt k hk).2 (h.2 k hk)⟩
theorem IsVec.mod {S T : Nat → Prop} {w w' : World} {E : TypeId} {sz n : Nat} {v : Value} {xs : List Value} (h : IsVec S w E sz v n xs) (m : Mod T w w') (hs : ∀ k, k < w.heap.size → S k → ¬ T k) : IsVec S w' E sz v n xs := by
 obtain ⟨⟨hl, h1⟩, h2⟩ := h
 refine ⟨⟨hl, ?_⟩, h2⟩
 rcases h1 with h1 | ⟨g, cap, cur, rfl, hg, hh, r⟩
 ·exact .inl h1
 ·exact .inr ⟨g, cap, cur, rfl, hg, (m.block g (heap_lt hh) (hs g (heap_lt hh) (h2 g rfl))).trans hh, r⟩
theorem IsVec.modNil {S : Nat → Prop} {w w' : World} {E : TypeId} {sz n : Nat} {v : Value} {xs : List Value} (h : IsVec S w E sz v n xs) (m : Mod Go.Proofs.YtdfahddpkkeldaaGreat.nil w w') : IsVec S w' E sz v n xs := h.mod m (fun _ _ _ f => f)
theorem IsVec.len {S : Nat → Prop} {w : World} {E : TypeId} {sz n : Nat} {v : Value} {xs : List Value} (h : IsVec S w E sz v n xs) : xs.length = n * sz := h.1.1
theorem IsVec.form {S : Nat → Prop} {w : World} {E : TypeId} {sz n : Nat} {v : Value} {xs : List Value} (h : IsVec S w E sz v n xs) : ∃ p c, v = .slice p n c := by
 rcases h.1.2 with ⟨rfl, rfl⟩ | ⟨g, cap, cur, rfl, _⟩
 ·exact ⟨_, _, rfl⟩
 ·exact ⟨_, _, rfl⟩
theorem IsVec.cells {S : Nat → Prop} {w : World} {E : TypeId} {sz n : Nat} {v : Value} {xs : List Value} (h : IsVec S w E sz v n xs) : IsCells S w v n xs := by
 obtain ⟨⟨hl, h1⟩, h2⟩ := h
 rcases h1 with ⟨rfl, rfl⟩ | ⟨g, cap, cur, rfl, hg, hh, hn, hm, hs, ht⟩
 ·exact ⟨none, 0, rfl, fun i hi => by rw [hl] at hi; simp at hi⟩
 ·refine ⟨_, _, rfl, fun i hi => ⟨g, 0, rfl, h2 g rfl, heap_lt hh, ?_⟩⟩
  rw [cell_of hh, Nat.zero_add, ← ht]
  have hi' : i < n * sz := by rw [← hl]; exact hi
  have : i < cur.size := by rw [hs]; exact Nat.lt_of_lt_of_le hi' (Nat.mul_le_mul_right _ hn)
  simp [hi', this]
theorem IsVec.row {S : Nat → Prop} {w : World} {E : TypeId} {n : Nat} {v : Value} {xs : List Value} (h : IsVec S w E 1 v n xs) : IsRow S w v xs := by
  have hl := h.len
  have := h.cells
  rw [show n = xs.length by omega] at this
  exact this
theorem Mod.ofGrown {w w' : World} {v : Value} (h : w.grownBy w' v.ownBlock) : Mod (fun k => v.ownBlock = some k) w w' :=
 ⟨h.os, h.tape, h.output, h.size, fun k hk hne => h.block k hk (fun e => hne e.symm)⟩
/-- append of a slice that is read to one of the program's own -/
theorem vec_append {S T : Nat → Prop} {w : World} (t ty e : TypeId) (i : TypeInfo) (z : Value) (size bytes : Nat) (ht : P.underlying t = some (.slice e)) (hi : P.info? e = some i) (hz : i.zero = some z)
  (hsize : i.size = size) (hby : i.bytes = bytes) (hzs : z.cells.size = size) (hsz : 0 < size) {v x : Value} {n m : Nat} {xs news : List Value}
  (hv : IsVec S w e size v n xs) (hx : IsCells T w x m news) (hl : news.length = m * size) (h1 : ∀ u ∈ news, u.oneCell' = true)
  (h63 : n + m ≤ maxLen) (hbytes : (n + m) * bytes ≤ 140737488355328) :
  ∃ v' w', (Builtin.append_ #[t, t] ty #[v, x]).run P w = .ok v' w' ∧ IsVec (fun k => S k ∨ w.heap.size ≤ k) w' e size v' (n + m) (xs ++ news) ∧ Mod S w w' := by
 obtain ⟨p, c, rfl, hc⟩ := hx
 have fin : ∀ v' w', w'.ownsRow 0 e size v' (n + m) (xs ++ news) → w.grownBy w' v.ownBlock → (∀ k, v'.ownBlock = some k → v.ownBlock = some k ∨ w.heap.size ≤ k) →
   IsVec (fun k => S k ∨ w.heap.size ≤ k) w' e size v' (n + m) (xs ++ news) ∧ Mod S w w' := by
  intro v' w' ho hg hk
  exact ⟨⟨ho, fun k h => (hk k h).imp (hv.2 k) id⟩, (Mod.ofGrown hg).mono (fun k _ h => hv.2 k h)⟩
 by_cases hm : news = []
 ·subst hm
  have hm0 : m = 0 := by
   rcases Nat.eq_zero_or_pos m with h | h
   ·exact h
   ·have := Nat.mul_pos h hsz
    simp at hl; omega
  subst hm0
  have hrun : (Builtin.append_ #[t, t] ty #[v, .slice p 0 c]).run P w = .ok v w := by
   obtain ⟨hl2, h2⟩ := hv.1
   have hf : (Builtin.firstCells i.size 0 (.slice p 0 c)).run P w = .ok #[] w := by
    cases p <;> simp [Builtin.firstCells, loadCells, loadCellsFrom]
   rcases h2 with ⟨rfl, rfl⟩ | ⟨g, cap, cur, rfl, _, _, hnc, _⟩
   ·simp [Builtin.append_, run_underlying ht, sizeOf, typeInfo, hi, Builtin.lenOf, hf]
   ·simp [Builtin.append_, run_underlying ht, sizeOf, typeInfo, hi, Builtin.lenOf, hf, hnc, storeCells]
  exact ⟨v, w, hrun, fin v w (by simpa using hv.1) ⟨rfl, rfl, rfl, Nat.le_refl _, fun _ _ _ => rfl⟩ (fun k h => .inl h)⟩
 ·have hpos : 0 < news.length := List.length_pos_iff.2 hm
  obtain ⟨b, off, rfl, _⟩ := hc 0 hpos
  have hnews : ∀ j u, news[j]? = some u → w.cell? ((⟨b, off, none⟩ : Addr).add j) = some u := by
   intro j u hu
   obtain ⟨hj, hu2⟩ := List.getElem?_eq_some_iff.1 hu
   obtain ⟨b', off', hp, _, _, hcell⟩ := hc j hj
   simp only [Option.some.injEq, Addr.mk.injEq, and_true] at hp
   obtain ⟨rfl, rfl⟩ := hp
   have : (⟨b, off, none⟩ : Addr).add j = ⟨b, off + j, none⟩ := by unfold Addr.add; split <;> simp_all
   rw [this, hcell]; simp [hj, hu2]
  have hmp : 0 < m := by
   rcases Nat.eq_zero_or_pos m with h | h
   ·rw [h] at hl; simp at hl; exact absurd hl hm
   ·exact h
  obtain ⟨v', w', hr, h2, h3, h4⟩ := run_append_own (P := P) w 0 t ty e i z size bytes ht hi hz hsize hby hzs hsz v n xs hv.1 ⟨b, off, none⟩ m c news hl hnews h1 h63 hbytes (Nat.zero_le _)
  refine ⟨v', w', hr, fin v' w' h2 h3 (fun k hk => ?_)⟩
  rcases hv.1.2 with ⟨hv0, rfl⟩ | ⟨g, cap, cur, rfl, _, hg, hnc, hcm, hcs, htake⟩
  ·subst hv0
   have hx0 : xs = [] := List.eq_nil_of_length_eq_zero (by simpa using hv.1.1)
   subst hx0
   obtain ⟨v2, w2, hr2, h2', _, _⟩ := run_append_own (P := P) w w.heap.size t ty e i z size bytes ht hi hz hsize hby hzs hsz (.slice none 0 0) 0 [] (World.ownsRow_nil w w.heap.size e size) ⟨b, off, none⟩ m c news hl hnews h1 h63 hbytes (Nat.le_refl _)
   rw [hr] at hr2
   simp only [Result.ok.injEq] at hr2
   obtain ⟨rfl, rfl⟩ := hr2
   exact .inr (h2'.lt k hk).1
  ·by_cases hroom : n + m ≤ cap
   ·obtain ⟨w2, hr2, _, _⟩ := run_append_fits (P := P) w 0 t ty e i size ht hi hsize g n cap xs hv.1 ⟨b, off, none⟩ m c news hl hnews h1 hroom
    rw [hr] at hr2
    simp only [Result.ok.injEq] at hr2
    obtain ⟨rfl, rfl⟩ := hr2
    exact .inl hk
   ·subst hsize; subst hby
    have holds : ∀ j u, xs[j]? = some u → w.cell? ((⟨g, 0, none⟩ : Addr).add j) = some u := hv.1.cells (g := g) rfl
    have hr2 := run_append_grow (P := P) w t ty e i z ht hi hz ⟨g, 0, none⟩ n cap xs hv.1.1 holds ⟨b, off, none⟩ m c news hl hnews (by omega) (by unfold maxLen at h63; omega) (growslice_fits (by omega) hbytes)
    rw [hr] at hr2
    simp only [Result.ok.injEq] at hr2
    obtain ⟨rfl, rfl⟩ := hr2
    simp [Value.ownBlock] at hk
    exact .inr (by omega)
/-- a builtin 'append' whose run is known, at the operation: '(at_builtin; refine wpList_append_run rfl _ _ _ _ rfl rfl rfl hrun ?_)' -/
theorem wpList_append_run {ops : Array Oper} {rest : List Oper} {o : Oper} {a : Act} {Q : Exit → Act → World → Prop} {w w' : World} {v xv v' : Value} (hgd : o.guard = none) (s x : Operand) (t u : TypeId)
  (ho : o.op = .call { callee := .builtin .append, args := #[s, x], argTypes := #[t, u] }) (hs : a.eval s = v) (hx : a.eval x = xv)
  (hrun : (Builtin.append_ #[t, u] o.type #[v, xv]).run P w = .ok v' w') (h : wpList P ops Q rest (a.put o.dst v') w') : wpList P ops Q (o :: rest) a w :=
 wpList_plain hgd fun _ hK => by
  unfold Oper.wp execOp
  simp only [ho, resolve, invoke, builtin, Sem.run_bind, Sem.run_pure, Result.andThen_ok, List.map_toArray, List.map_cons, List.map_nil, hs, hx, hrun]
  exact hK _ _ h
/-- make([]T, n) of one-cell elements -/
theorem run_make_one (t e : TypeId) (i : TypeInfo) (z : Value) (bytes : Nat) (ht : P.underlying t = some (.slice e)) (hi : P.info? e = some i) (hz : i.zero = some z) (hsize : i.size = 1) (hby : i.bytes = bytes) (hzc : z.cells = #[z])
  (n : Nat) (hb : bytes * n ≤ 281474976710656) (h63 : n ≤ maxLen) (w : World) :
  (Instr.makeSlice t (.int .i64 n) (.int .i64 n)).run P w = .ok (.slice (some ⟨w.heap.size, 0, none⟩) n n) (w.alloc (.cells (List.replicate n z).toArray e)) := by
 have h63' : (n : Int) ≤ 9223372036854775807 := by
  have h := h63
  simp [maxLen] at h
  omega
 have hb' : (i.bytes : Int) * (n : Int) ≤ 281474976710656 := by
  have h : ((i.bytes * n : Nat) : Int) ≤ 281474976710656 := by rw [hby]; omega
  rwa [Int.natCast_mul] at h
 have hr := run_make (P := P) w t e i z ht hi hz .i64 .i64 n n (by omega) (Int.le_refl _) hb' h63'
 simp only [Int.toNat_natCast, hsize, Nat.mul_one, hzc] at hr
 rw [hr]
 congr 3
 apply Array.toList_inj.1
 rw [toList_madeCells_one]
end
end Go.Proofs.YtdfahddpkkeldaaGreat

/- Slices that the program makes and appends to. 'IsVec S w E sz v n xs': v is nil, or it starts a block of its own, not frozen, which lies in S; it has n elements of type E (sz cells each), whose cells are xs. 'IsCells': a slice that is only read. Nothing of the program is named here. -/
import Derived.Test.YtjilbnpehgigjaaGreatRd
import Derived.Laws.AppendOwn
import Derived.Laws.OwnMore
import Derived.Deep.RegionLaw
import Derived.Test.YtjilbnpehgigjaaGreatChecked
import Derived.Lib.SliceRun
namespace Go.Proofs.YtjilbnpehgigjaaGreat
open Go.RowKit
section
variable {P : Program}

def IsCells (S : Nat → Prop) (w : World) (v : Value) (n : Nat) (xs : List Value) : Prop :=
  ∃ p c, v = .slice p n c ∧ ∀ i, i < xs.length → ∃ b off, p = some ⟨b, off, none⟩ ∧ S b ∧ b < w.heap.size ∧ w.cell? ⟨b, off + i, none⟩ = some (xs.getD i undef)
theorem IsRow.cells {S : Nat → Prop} {w : World} {v : Value} {xs : List Value} (h : IsRow S w v xs) : IsCells S w v xs.length xs := h
theorem IsCells.mod {S T : Nat → Prop} {w w' : World} {v : Value} {n : Nat} {xs : List Value} (h : IsCells S w v n xs) (m : Mod T w w') (hs : ∀ i, i < w.heap.size → S i → ¬ T i) : IsCells S w' v n xs := by
  obtain ⟨p, c, rfl, hc⟩ := h
  refine ⟨p, c, rfl, fun i hi => ?_⟩
  obtain ⟨b, off, rfl, hS, hb, hx⟩ := hc i hi
  exact ⟨b, off, rfl, hS, Nat.lt_of_lt_of_le hb m.size, by rw [← hx]; exact World.cell?_of_block (w := w) (m.block b hb (hs b hb hS))⟩
theorem IsRow.mono {S T : Nat → Prop} {w : World} {v : Value} {xs : List Value} (h : IsRow S w v xs) (hs : ∀ i, i < w.heap.size → S i → T i) : IsRow T w v xs := by
  obtain ⟨p, c, rfl, hc⟩ := h
  refine ⟨p, c, rfl, fun i hi => ?_⟩
  obtain ⟨b, off, rfl, hS, hb, hx⟩ := hc i hi
  exact ⟨b, off, rfl, hs b hb hS, hb, hx⟩
/-- the row lies in blocks that are there -/
theorem IsRow.here {S : Nat → Prop} {w : World} {v : Value} {xs : List Value} (h : IsRow S w v xs) : IsRow (fun k => S k ∧ k < w.heap.size) w v xs := h.mono (fun _ hk h => ⟨h, hk⟩)
/-- every block that is there -/
def old (w : World) : Nat → Prop := fun k => k < w.heap.size
theorem IsRow.modNil {S : Nat → Prop} {w w' : World} {v : Value} {xs : List Value} (h : IsRow S w v xs) (m : Mod nil w w') : IsRow S w' v xs := h.mod m (fun _ _ _ f => f)
theorem IsCells.modNil {S : Nat → Prop} {w w' : World} {v : Value} {n : Nat} {xs : List Value} (h : IsCells S w v n xs) (m : Mod nil w w') : IsCells S w' v n xs := h.mod m (fun _ _ _ f => f)

def IsVec (S : Nat → Prop) (w : World) (E : TypeId) (sz : Nat) (v : Value) (n : Nat) (xs : List Value) : Prop :=
  w.ownsRow 0 E sz v n xs ∧ ∀ k, v.ownBlock = some k → S k
theorem IsVec.nil (S : Nat → Prop) (w : World) (E : TypeId) (sz : Nat) : IsVec S w E sz (.slice none 0 0) 0 [] := ⟨World.ownsRow_nil w 0 E sz, fun k h => by simp [Value.ownBlock] at h⟩
theorem IsVec.mono {S T : Nat → Prop} {w : World} {E : TypeId} {sz n : Nat} {v : Value} {xs : List Value} (h : IsVec S w E sz v n xs) (hs : ∀ k, k < w.heap.size → S k → T k) : IsVec T w E sz v n xs :=
  ⟨h.1, fun k hk => hs k (h.1.lt k hk).2 (h.2 k hk)⟩
theorem IsVec.mod {S T : Nat → Prop} {w w' : World} {E : TypeId} {sz n : Nat} {v : Value} {xs : List Value} (h : IsVec S w E sz v n xs) (m : Mod T w w') (hs : ∀ k, k < w.heap.size → S k → ¬ T k) : IsVec S w' E sz v n xs := by
  obtain ⟨⟨hl, h1⟩, h2⟩ := h
  refine ⟨⟨hl, ?_⟩, h2⟩
  rcases h1 with h1 | ⟨g, cap, cur, rfl, hg, hh, r⟩
  · exact .inl h1
  · exact .inr ⟨g, cap, cur, rfl, hg, (m.block g (heap_lt hh) (hs g (heap_lt hh) (h2 g rfl))).trans hh, r⟩
theorem IsVec.modNil {S : Nat → Prop} {w w' : World} {E : TypeId} {sz n : Nat} {v : Value} {xs : List Value} (h : IsVec S w E sz v n xs) (m : Mod Go.Proofs.YtjilbnpehgigjaaGreat.nil w w') : IsVec S w' E sz v n xs := h.mod m (fun _ _ _ f => f)
theorem IsVec.len {S : Nat → Prop} {w : World} {E : TypeId} {sz n : Nat} {v : Value} {xs : List Value} (h : IsVec S w E sz v n xs) : xs.length = n * sz := h.1.1
theorem IsVec.form {S : Nat → Prop} {w : World} {E : TypeId} {sz n : Nat} {v : Value} {xs : List Value} (h : IsVec S w E sz v n xs) : ∃ p c, v = .slice p n c := by
  rcases h.1.2 with ⟨rfl, rfl⟩ | ⟨g, cap, cur, rfl, _⟩
  · exact ⟨_, _, rfl⟩
  · exact ⟨_, _, rfl⟩
theorem IsVec.cells {S : Nat → Prop} {w : World} {E : TypeId} {sz n : Nat} {v : Value} {xs : List Value} (h : IsVec S w E sz v n xs) : IsCells S w v n xs := by
  obtain ⟨⟨hl, h1⟩, h2⟩ := h
  rcases h1 with ⟨rfl, rfl⟩ | ⟨g, cap, cur, rfl, hg, hh, hn, hm, hs, ht⟩
  · exact ⟨none, 0, rfl, fun i hi => by rw [hl] at hi; simp at hi⟩
  · refine ⟨_, _, rfl, fun i hi => ⟨g, 0, rfl, h2 g rfl, heap_lt hh, ?_⟩⟩
    rw [cell_of hh, Nat.zero_add, ← ht]
    have hi' : i < n * sz := by rw [← hl]; exact hi
    have : i < cur.size := by rw [hs]; exact Nat.lt_of_lt_of_le hi' (Nat.mul_le_mul_right _ hn)
    simp [hi', this]
theorem IsVec.row {S : Nat → Prop} {w : World} {E : TypeId} {n : Nat} {v : Value} {xs : List Value} (h : IsVec S w E 1 v n xs) : IsRow S w v xs := by
  have hl := h.len
  have := h.cells
  rw [show n = xs.length by omega] at this
  exact this
theorem Mod.ofGrown {w w' : World} {v : Value} (h : w.grownBy w' v.ownBlock) : Mod (fun k => v.ownBlock = some k) w w' :=
  ⟨h.os, h.tape, h.output, h.size, fun k hk hne => h.block k hk (fun e => hne e.symm)⟩
/-- append of a slice that is read to one of the program's own -/
theorem vec_append {S T : Nat → Prop} {w : World} (t ty e : TypeId) (i : TypeInfo) (z : Value) (size bytes : Nat) (ht : P.underlying t = some (.slice e)) (hi : P.info? e = some i) (hz : i.zero = some z)
    (hsize : i.size = size) (hby : i.bytes = bytes) (hzs : z.cells.size = size) (hsz : 0 < size) {v x : Value} {n m : Nat} {xs news : List Value}
    (hv : IsVec S w e size v n xs) (hx : IsCells T w x m news) (hl : news.length = m * size) (h1 : ∀ u ∈ news, u.oneCell' = true)
    (h63 : n + m ≤ maxLen) (hbytes : (n + m) * bytes ≤ 140737488355328) :
    ∃ v' w', (Builtin.append_ #[t, t] ty #[v, x]).run P w = .ok v' w' ∧ IsVec (fun k => S k ∨ w.heap.size ≤ k) w' e size v' (n + m) (xs ++ news) ∧ Mod S w w' := by
  obtain ⟨p, c, rfl, hc⟩ := hx
  have fin : ∀ v' w', w'.ownsRow 0 e size v' (n + m) (xs ++ news) → w.grownBy w' v.ownBlock → (∀ k, v'.ownBlock = some k → v.ownBlock = some k ∨ w.heap.size ≤ k) →
      IsVec (fun k => S k ∨ w.heap.size ≤ k) w' e size v' (n + m) (xs ++ news) ∧ Mod S w w' := by
    intro v' w' ho hg hk
    exact ⟨⟨ho, fun k h => (hk k h).imp (hv.2 k) id⟩, (Mod.ofGrown hg).mono (fun k _ h => hv.2 k h)⟩
  by_cases hm : news = []
  · subst hm
    have hm0 : m = 0 := by
      rcases Nat.eq_zero_or_pos m with h | h
      · exact h
      · have := Nat.mul_pos h hsz
        simp at hl; omega
    subst hm0
    have hrun : (Builtin.append_ #[t, t] ty #[v, .slice p 0 c]).run P w = .ok v w := by
      obtain ⟨hl2, h2⟩ := hv.1
      have hf : (Builtin.firstCells i.size 0 (.slice p 0 c)).run P w = .ok #[] w := by
        cases p <;> simp [Builtin.firstCells, loadCells, loadCellsFrom]
      rcases h2 with ⟨rfl, rfl⟩ | ⟨g, cap, cur, rfl, _, _, hnc, _⟩
      · simp [Builtin.append_, run_underlying ht, sizeOf, typeInfo, hi, Builtin.lenOf, hf]
      · simp [Builtin.append_, run_underlying ht, sizeOf, typeInfo, hi, Builtin.lenOf, hf, hnc, storeCells]
    exact ⟨v, w, hrun, fin v w (by simpa using hv.1) ⟨rfl, rfl, rfl, Nat.le_refl _, fun _ _ _ => rfl⟩ (fun k h => .inl h)⟩
  · have hpos : 0 < news.length := List.length_pos_iff.2 hm
    obtain ⟨b, off, rfl, _⟩ := hc 0 hpos
    have hnews : ∀ j u, news[j]? = some u → w.cell? ((⟨b, off, none⟩ : Addr).add j) = some u := by
      intro j u hu
      obtain ⟨hj, hu2⟩ := List.getElem?_eq_some_iff.1 hu
      obtain ⟨b', off', hp, _, _, hcell⟩ := hc j hj
      simp only [Option.some.injEq, Addr.mk.injEq, and_true] at hp
      obtain ⟨rfl, rfl⟩ := hp
      have : (⟨b, off, none⟩ : Addr).add j = ⟨b, off + j, none⟩ := by unfold Addr.add; split <;> simp_all
      rw [this, hcell]; simp [hj, hu2]
    have hmp : 0 < m := by
      rcases Nat.eq_zero_or_pos m with h | h
      · rw [h] at hl; simp at hl; exact absurd hl hm
      · exact h
    obtain ⟨v', w', hr, h2, h3, h4⟩ := run_append_own (P := P) w 0 t ty e i z size bytes ht hi hz hsize hby hzs hsz v n xs hv.1 ⟨b, off, none⟩ m c news hl hnews h1 h63 hbytes (Nat.zero_le _)
    refine ⟨v', w', hr, fin v' w' h2 h3 (fun k hk => ?_)⟩
    rcases hv.1.2 with ⟨hv0, rfl⟩ | ⟨g, cap, cur, rfl, _, hg, hnc, hcm, hcs, htake⟩
    · subst hv0
      have hx0 : xs = [] := List.eq_nil_of_length_eq_zero (by simpa using hv.1.1)
      subst hx0
      obtain ⟨v2, w2, hr2, h2', _, _⟩ := run_append_own (P := P) w w.heap.size t ty e i z size bytes ht hi hz hsize hby hzs hsz (.slice none 0 0) 0 [] (World.ownsRow_nil w w.heap.size e size) ⟨b, off, none⟩ m c news hl hnews h1 h63 hbytes (Nat.le_refl _)
      rw [hr] at hr2
      simp only [Result.ok.injEq] at hr2
      obtain ⟨rfl, rfl⟩ := hr2
      exact .inr (h2'.lt k hk).1
    · by_cases hroom : n + m ≤ cap
      · obtain ⟨w2, hr2, _, _⟩ := run_append_fits (P := P) w 0 t ty e i size ht hi hsize g n cap xs hv.1 ⟨b, off, none⟩ m c news hl hnews h1 hroom
        rw [hr] at hr2
        simp only [Result.ok.injEq] at hr2
        obtain ⟨rfl, rfl⟩ := hr2
        exact .inl hk
      · subst hsize; subst hby
        have holds : ∀ j u, xs[j]? = some u → w.cell? ((⟨g, 0, none⟩ : Addr).add j) = some u := hv.1.cells (g := g) rfl
        have hr2 := run_append_grow (P := P) w t ty e i z ht hi hz ⟨g, 0, none⟩ n cap xs hv.1.1 holds ⟨b, off, none⟩ m c news hl hnews (by omega) (by unfold maxLen at h63; omega) (growslice_fits (by omega) hbytes)
        rw [hr] at hr2
        simp only [Result.ok.injEq] at hr2
        obtain ⟨rfl, rfl⟩ := hr2
        simp [Value.ownBlock] at hk
        exact .inr (by omega)
/-- a builtin 'append' whose run is known, at the operation: '(at_builtin; refine wpList_append_run rfl _ _ _ _ rfl rfl rfl hrun ?_)' -/
theorem wpList_append_run {ops : Array Oper} {rest : List Oper} {o : Oper} {a : Act} {Q : Exit → Act → World → Prop} {w w' : World} {v xv v' : Value} (hgd : o.guard = none) (s x : Operand) (t u : TypeId)
    (ho : o.op = .call { callee := .builtin .append, args := #[s, x], argTypes := #[t, u] }) (hs : a.eval s = v) (hx : a.eval x = xv)
    (hrun : (Builtin.append_ #[t, u] o.type #[v, xv]).run P w = .ok v' w') (h : wpList P ops Q rest (a.put o.dst v') w') : wpList P ops Q (o :: rest) a w :=
  wpList_plain hgd fun _ hK => by
    unfold Oper.wp execOp
    simp only [ho, resolve, invoke, builtin, Sem.run_bind, Sem.run_pure, Result.andThen_ok, List.map_toArray, List.map_cons, List.map_nil, hs, hx, hrun]
    exact hK _ _ h
/-- .. 'clear' .. -/
theorem wpList_clear_run {ops : Array Oper} {rest : List Oper} {o : Oper} {a : Act} {Q : Exit → Act → World → Prop} {w w' : World} {v v' : Value} (hgd : o.guard = none) (s : Operand) (t : TypeId)
    (ho : o.op = .call { callee := .builtin .clear, args := #[s], argTypes := #[t] }) (hs : a.eval s = v)
    (hrun : (Builtin.clear_ #[t] o.type #[v]).run P w = .ok v' w') (h : wpList P ops Q rest (a.put o.dst v') w') : wpList P ops Q (o :: rest) a w :=
  wpList_plain hgd fun _ hK => by
    unfold Oper.wp execOp
    simp only [ho, resolve, invoke, builtin, Sem.run_bind, Sem.run_pure, Result.andThen_ok, List.map_toArray, List.map_cons, List.map_nil, hs, hrun]
    exact hK _ _ h
/-- make([]T, n) of one-cell elements -/
theorem run_make_one (t e : TypeId) (i : TypeInfo) (z : Value) (bytes : Nat) (ht : P.underlying t = some (.slice e)) (hi : P.info? e = some i) (hz : i.zero = some z) (hsize : i.size = 1) (hby : i.bytes = bytes) (hzc : z.cells = #[z])
    (n : Nat) (hb : bytes * n ≤ 281474976710656) (h63 : n ≤ maxLen) (w : World) :
    (Instr.makeSlice t (.int .i64 n) (.int .i64 n)).run P w = .ok (.slice (some ⟨w.heap.size, 0, none⟩) n n) (w.alloc (.cells (List.replicate n z).toArray e)) := by
  have h63' : (n : Int) ≤ 9223372036854775807 := by
    have h := h63
    simp [maxLen] at h
    omega
  have hb' : (i.bytes : Int) * (n : Int) ≤ 281474976710656 := by
    have h : ((i.bytes * n : Nat) : Int) ≤ 281474976710656 := by rw [hby]; omega
    rwa [Int.natCast_mul] at h
  have hr := run_make (P := P) w t e i z ht hi hz .i64 .i64 n n (by omega) (Int.le_refl _) hb' h63'
  simp only [Int.toNat_natCast, hsize, Nat.mul_one, hzc] at hr
  rw [hr]
  congr 3
  apply Array.toList_inj.1
  rw [toList_madeCells_one]
end
end Go.Proofs.YtjilbnpehgigjaaGreat

/- append as one step of a region that draws: over 'IsVec', 'IsCells'. -/
namespace Go.Proofs.YtjilbnpehgigjaaGreat
open Go.RowKit
section
variable {P : Program}
theorem vec_empty_at (w : World) (E : TypeId) (sz g : Nat) (hg : w.heap.size = g) : IsVec (· = g) (w.alloc (.cells #[] E)) E sz (.slice (some ⟨g, 0, none⟩) 0 0) 0 [] := by
  subst hg
  exact ⟨⟨by simp, .inr ⟨w.heap.size, 0, #[], rfl, Nat.zero_le _, heap_alloc_new _ _, Nat.le_refl _, by simp, by simp, by simp⟩⟩, fun k hk => by simp [Value.ownBlock] at hk; omega⟩
theorem cells_one_at (w : World) (E : TypeId) (u : Value) (g : Nat) (hg : w.heap.size = g) : IsCells (· = g) (w.alloc (.cells #[u] E)) (.slice (some ⟨g, 0, none⟩) 1 1) 1 [u] := by
  subst hg
  refine ⟨_, 1, rfl, fun i hi => ⟨w.heap.size, 0, rfl, rfl, by simp, ?_⟩⟩
  have : i = 0 := by simpa using hi
  subst this
  rw [cell_of (heap_alloc_new w (.cells #[u] E))]; rfl
theorem step_append_vec {S T : Nat → Prop} {ops : Array Oper} {o : Oper} {a : Act} {w : World} {K : Act → World → Prop} {Q : Exit → Act → World → Prop} {E : Prop} (hgd : o.guard = none) (s x : Operand) (t : TypeId)
    (ho : o.op = .call { callee := .builtin .append, args := #[s, x], argTypes := #[t, t] })
    (e : TypeId) (i : TypeInfo) (z : Value) (size bytes : Nat) (ht : P.underlying t = some (.slice e)) (hi : P.info? e = some i) (hz : i.zero = some z)
    (hsize : i.size = size) (hby : i.bytes = bytes) (hzs : z.cells.size = size) (hsz : 0 < size)
    (v : Value) (n : Nat) (xs : List Value) (hs : a.eval s = v) (hv : IsVec S w e size v n xs) (xv : Value) (m : Nat) (news : List Value) (hx : a.eval x = xv) (hc : IsCells T w xv m news)
    (hl : news.length = m * size) (h1 : ∀ u ∈ news, u.oneCell' = true) (h63 : n + m ≤ maxLen) (hbytes : (n + m) * bytes ≤ 140737488355328)
    (h : ∀ v' w', IsVec (fun k => S k ∨ w.heap.size ≤ k) w' e size v' (n + m) (xs ++ news) → Mod S w w' → K (a.put o.dst v') w') :
    if Region.wanted o (yielded ops a.tmps) = true then Oper.wp P o a w K Q else E := by
  have hw : Region.wanted o (yielded ops a.tmps) = true := by simp [Region.wanted, hgd]
  rw [if_pos hw]
  obtain ⟨v', w', hr, h2, h3⟩ := vec_append (P := P) t o.type e i z size bytes ht hi hz hsize hby hzs hsz hv hc hl h1 h63 hbytes
  unfold Oper.wp execOp
  simp only [ho, resolve, invoke, builtin, Sem.run_bind, Sem.run_pure, Result.andThen_ok, List.map_toArray, List.map_cons, List.map_nil, hs, hx, hr]
  exact h v' w' h2 h3
end
end Go.Proofs.YtjilbnpehgigjaaGreat

/- Bytes: rows of them, slices.Clone, the comparison of two by their texts. -/
namespace Go.Proofs.YtjilbnpehgigjaaGreat
open Go.RowKit

def bys (l : List UInt8) : List Value := l.map (fun b => Value.int .u8 b.toNat)
theorem bys_length (l : List UInt8) : (bys l).length = l.length := by simp [bys]
theorem bys_getD (l : List UInt8) (i : Nat) (h : i < l.length) : (bys l).getD i undef = .int .u8 (l.getD i 0).toNat := by simp [bys, h]
theorem bys_one (l : List UInt8) : ∀ u ∈ bys l, u.oneCell' = true := by
  intro u hu
  obtain ⟨b, _, rfl⟩ := List.mem_map.1 hu
  rfl
theorem bys_append (l m : List UInt8) : bys (l ++ m) = bys l ++ bys m := by simp [bys]
/-- a new block with no cells is an empty vector -/
theorem vec_empty (w : World) (E : TypeId) (sz : Nat) : IsVec (fun k => w.heap.size ≤ k) (w.alloc (.cells #[] E)) E sz (.slice (some ⟨w.heap.size, 0, none⟩) 0 0) 0 [] :=
  ⟨⟨by simp, .inr ⟨w.heap.size, 0, #[], rfl, Nat.zero_le _, heap_alloc_new _ _, Nat.le_refl _, by simp, by simp, by simp⟩⟩, fun k hk => by simp [Value.ownBlock] at hk; omega⟩
theorem info_u8 : (Tryz.prog.info? 5).map (fun i => (i.zero, i.size, i.bytes)) = some (some (.int .u8 0), 1, 1) := by kernel_rfl
/-- append to a byte slice of the program's own -/
theorem bytes_append {S T : Nat → Prop} {w : World} (ty : TypeId) {v x : Value} {l m : List UInt8} (hv : IsVec S w 5 1 v l.length (bys l)) (hx : IsRow T w x (bys m)) (hb : l.length + m.length ≤ 140737488355328) :
    ∃ v' w', (Builtin.append_ #[22, 22] ty #[v, x]).run Tryz.prog w = .ok v' w' ∧ IsVec (fun k => S k ∨ w.heap.size ≤ k) w' 5 1 v' (l ++ m).length (bys (l ++ m)) ∧ Mod S w w' := by
  obtain ⟨i0, hi, hz0, hz1, hz2⟩ := info_parts info_u8
  have hx' := hx.cells
  rw [bys_length] at hx'
  obtain ⟨v', w', h1, h2, h3⟩ := vec_append (P := Tryz.prog) 22 ty 5 i0 (.int .u8 0) 1 1 Tryz.underlying22 hi hz0 hz1 hz2 rfl (by omega) hv hx' (by simp [bys_length]) (bys_one m) (by unfold maxLen; omega) (by omega)
  exact ⟨v', w', h1, by rw [bys_append, List.length_append]; exact h2, h3⟩
theorem cloneBytes (T : Nat → Prop) (v : Value) (l : List UInt8) (w : World) (h : IsRow T w v (bys l)) (hl : l.length ≤ 140737488355328) :
    Calls Tryz.prog 50 #[v] w fun e w' => ∃ v', e = .returned v' ∧ IsVec (fun k => w.heap.size ≤ k) w' 5 1 v' l.length (bys l) ∧ Mod nil w w' := by
  obtain ⟨p, c, rfl, hc⟩ := id h
  rw [bys_length] at *
  have heq := Lib.run_eql_slice_nil (P := Tryz.prog) w 22 5 p l.length c 0 0 Tryz.underlying22
  cases p with
  | none =>
    have h0 : l = [] := by
      rcases l with _ | ⟨a, l⟩
      · rfl
      · obtain ⟨b, off, h1, _⟩ := hc 0 (by simp); cases h1
    subst h0
    clear hl hc h
    simp only [List.length_nil, Option.isNone_none] at heq
    go_enter Tryz.func50, Tryz.ntmps50
    go_wp2
    go_ret
    exact ⟨_, rfl, IsVec.nil _ _ _ _, Mod.refl _ _⟩
  | some a =>
    have hv := vec_empty w 5 1
    have hx := h.modNil ((Mod.refl nil w).alloc (.cells #[] 5))
    obtain ⟨v', w', hrun, hvec, hmod⟩ := bytes_append (l := []) 22 hv hx (by simpa using hl)
    simp only [List.nil_append] at hvec
    clear hv hx h hl hc
    simp only [Option.isNone_some] at heq
    have HR := Lib.hid hrun
    clear hrun
    go_enter Tryz.func50, Tryz.ntmps50
    go_wp2_with (at_builtin; refine wpList_append_run rfl _ _ _ _ rfl rfl rfl HR.out ?_)
    go_ret
    exact ⟨_, rfl, hvec.mono (fun k _ hk => by rcases hk with hk | hk; exact hk; simp at hk; omega), ((Mod.refl nil w).alloc _).new hmod (fun _ h => h)⟩
end Go.Proofs.YtjilbnpehgigjaaGreat

/- Cells of an argument read plainly: bytes, bools. -/
namespace Go.Proofs.YtjilbnpehgigjaaGreat
open Go.ChangeShapes Go.WideShapes Go.ChangeAt Go.RowKit
theorem Rc.bytes {w : World} {t : TypeId} {cs : List Value} (ht : Tryz.prog.underlying t = some (.slice 5)) (h : Rc w t cs) : ∃ (p : Option Addr) (len cap : Nat) (l : List UInt8), cs = [.slice p len cap] ∧ len ≤ cap ∧ cap ≤ maxLen ∧ l.length = len ∧ IsRow (· < w.heap.size) w (.slice p len cap) (bys l) := by
  have hc : Tryz.prog.cellsOf 5 = 1 := by kernel_rfl
  obtain ⟨p, len, cap, hv, hl, hm, hall⟩ := h.slice ht (by omega)
  have : ∀ i, i < len → ∃ x : UInt8, ∃ b off, p = some ⟨b, off, none⟩ ∧ b < w.heap.size ∧ w.cell? ⟨b, off + i, none⟩ = some (.int .u8 x.toNat) := by
    intro i hi
    obtain ⟨b, off, cs', hp, hb, hlen, hcell, hrc⟩ := hall i hi
    obtain ⟨x, rfl, hx⟩ := hrc.int Tryz.underlying5
    have hr : 0 ≤ x ∧ x ≤ 255 := by simpa [Lit.wf, IntKind.min, IntKind.max, IntKind.bits, IntKind.signed] using hx
    refine ⟨UInt8.ofNat x.toNat, b, off, hp, hb, ?_⟩
    have := hcell 0 (by simp)
    rw [show ((UInt8.ofNat x.toNat).toNat : Int) = x by simp; omega]
    simpa [hc] using this
  obtain ⟨l, hlen, hP⟩ := choose_list this
  refine ⟨p, len, cap, l, hv, hl, hm, hlen, ⟨p, cap, by rw [bys_length, hlen], fun i hi => ?_⟩⟩
  rw [bys_length] at hi
  obtain ⟨b, off, hp, hb, hcell⟩ := hP i hi
  refine ⟨b, off, hp, hb, hb, ?_⟩
  rw [hcell, bys_getD _ _ hi]
  simp [hi]
theorem Rc.bools {w : World} {cs : List Value} (h : Rc w 23 cs) : ∃ (p : Option Addr) (len cap : Nat) (l : List Bool), cs = [.slice p len cap] ∧ len ≤ maxLen ∧ l.length = len ∧ IsRow (· < w.heap.size) w (.slice p len cap) (l.map Value.bool) := by
  have hc : Tryz.prog.cellsOf 4 = 1 := by kernel_rfl
  obtain ⟨p, len, cap, hv, hl, hm, hall⟩ := h.slice Tryz.underlying23 (by omega)
  have : ∀ i, i < len → ∃ x : Bool, ∃ b off, p = some ⟨b, off, none⟩ ∧ b < w.heap.size ∧ w.cell? ⟨b, off + i, none⟩ = some (.bool x) := by
    intro i hi
    obtain ⟨b, off, cs', hp, hb, hlen, hcell, hrc⟩ := hall i hi
    obtain ⟨x, rfl⟩ := hrc.bool Tryz.underlying4
    refine ⟨x, b, off, hp, hb, ?_⟩
    have := hcell 0 (by simp)
    simpa [hc] using this
  obtain ⟨l, hlen, hP⟩ := choose_list this
  refine ⟨p, len, cap, l, hv, by omega, hlen, ⟨p, cap, by simp [hlen], fun i hi => ?_⟩⟩
  simp at hi
  obtain ⟨b, off, hp, hb, hcell⟩ := hP i hi
  exact ⟨b, off, hp, hb, hb, by rw [hcell]; simp [hi]⟩
end Go.Proofs.YtjilbnpehgigjaaGreat

/- Arguments read plainly: bytes, bools. -/
namespace Go.Proofs.YtjilbnpehgigjaaGreat
open Go.ChangeShapes Go.WideShapes Go.ChangeAt Go.RowKit
theorem bytes_of_ints : ∀ (l : List Int), (∀ x ∈ l, (Lit.int .u8 x).wf = true) → ∃ m : List UInt8, l.map (Value.int .u8) = bys m
  | [], _ => ⟨[], rfl⟩
  | x :: l, h => by
    obtain ⟨m, hm⟩ := bytes_of_ints l (fun y hy => h y (List.mem_cons_of_mem _ hy))
    have hx := h x (by simp)
    have hr : 0 ≤ x ∧ x ≤ 255 := by simpa [Lit.wf, IntKind.min, IntKind.max, IntKind.bits, IntKind.signed] using hx
    obtain ⟨n, rfl⟩ := Int.eq_ofNat_of_zero_le hr.1
    refine ⟨UInt8.ofNat n :: m, ?_⟩
    rw [List.map_cons, hm]
    show _ = Value.int .u8 ((UInt8.ofNat n).toNat : Int) :: bys m
    rw [UInt8.toNat_ofNat', Nat.mod_eq_of_lt (by omega)]
theorem Rd.bytes {w : World} {v : Value} (h : Rd w 22 v) : ∃ l : List UInt8, IsRow (· < w.heap.size) w v (bys l) ∧ l.length ≤ maxLen := by
  obtain ⟨l, hl, hn, hw⟩ := h.intRow Tryz.underlying22 Tryz.underlying5 (by kernel_rfl)
  obtain ⟨m, hm⟩ := bytes_of_ints l hw
  refine ⟨m, hm ▸ hl, ?_⟩
  have := congrArg List.length hm
  simp [bys_length] at this
  omega
theorem Rd.bytesCap {w : World} {v : Value} (h : Rd w 22 v) : ∃ (p : Option Addr) (cap : Nat) (l : List UInt8), v = .slice p l.length cap ∧ l.length ≤ cap ∧ cap ≤ maxLen ∧ IsRow (· < w.heap.size) w (.slice p l.length cap) (bys l) := by
  obtain ⟨p, len, cap, rfl, hc, hm, -⟩ := Rd.slice Tryz.underlying22 (by rw [show Tryz.prog.cellsOf 5 = 1 from by kernel_rfl]; omega) h
  obtain ⟨l, hl, hn⟩ := h.bytes
  obtain ⟨p', c', hv, r⟩ := id hl
  simp only [Value.slice.injEq, bys_length] at hv
  obtain ⟨rfl, rfl, rfl⟩ := hv
  exact ⟨_, _, l, rfl, hc, hm, hl⟩
theorem Rd.bools {w : World} {v : Value} (h : Rd w 23 v) : ∃ l : List Bool, IsRow (· < w.heap.size) w v (l.map Value.bool) ∧ l.length ≤ maxLen := by
  obtain ⟨p, len, cap, rfl, hl, hm, hall⟩ := h.slice Tryz.underlying23 (by rw [show Tryz.prog.cellsOf 4 = 1 from by kernel_rfl]; omega)
  have hc : Tryz.prog.cellsOf 4 = 1 := by kernel_rfl
  have : ∀ i, i < len → ∃ x : Bool, ∃ b off, p = some ⟨b, off, none⟩ ∧ b < w.heap.size ∧ w.cell? ⟨b, off + i, none⟩ = some (.bool x) := by
    intro i hi
    obtain ⟨b, off, cs', hp, hb, hlen, hcell, hrc⟩ := hall i hi
    obtain ⟨x, rfl⟩ := hrc.bool Tryz.underlying4
    refine ⟨x, b, off, hp, hb, ?_⟩
    have := hcell 0 (by simp)
    simpa [hc] using this
  obtain ⟨l, hlen, hP⟩ := choose_list this
  refine ⟨l, ⟨p, cap, by simp [hlen], fun i hi => ?_⟩, by omega⟩
  simp at hi
  obtain ⟨b, off, hp, hb, hcell⟩ := hP i hi
  exact ⟨b, off, hp, hb, hb, by rw [hcell]; simp [hi]⟩
end Go.Proofs.YtjilbnpehgigjaaGreat

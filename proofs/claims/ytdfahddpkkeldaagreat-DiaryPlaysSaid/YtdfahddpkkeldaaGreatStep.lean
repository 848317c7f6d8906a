/- append as one step of a region that draws: over 'IsVec', 'IsCells'. -/
import Derived.Deep.RegionLaw
import Derived.Test.YtdfahddpkkeldaaGreatVec
namespace Go.Proofs.YtdfahddpkkeldaaGreat
open Go.RowKit
section
variable {P : Program}
theorem vec_empty_at (w : World) (E : TypeId) (sz g : Nat) (hg : w.heap.size = g) : IsVec (· = g) (w.alloc (.cells #[] E)) E sz (.slice (some ⟨g, 0, none⟩) 0 0) 0 [] := by
 subst hg
 exact ⟨⟨by simp, .inr ⟨w.heap.size, 0, #[], rfl, Nat.zero_le _, heap_alloc_new _ _, Nat.le_refl _, by simp, by simp, by simp⟩⟩, fun k hk => by simp [Value.ownBlock] at hk; omega⟩
theorem cells_one_at (w : World) (E : TypeId) (u : Value) (g : Nat) (hg : w.heap.size = g) : IsCells (· = g) (w.alloc (.cells #[u] E)) (.slice (some ⟨g, 0, none⟩) 1 1) 1 [u] := by
 subst hg
 refine ⟨_, 1, rfl, fun i hi => ⟨w.heap.size, 0, rfl, rfl, by simp, ?_⟩⟩
 have : i = 0 := by simpa using hi
 subst this
 rw [cell_of (heap_alloc_new w (.cells #[u] E))]; rfl
theorem step_append_vec {S T : Nat → Prop} {ops : Array Oper} {o : Oper} {a : Act} {w : World} {K : Act → World → Prop} {Q : Exit → Act → World → Prop} {E : Prop} (hgd : o.guard = none) (s x : Operand) (t : TypeId)
  (ho : o.op = .call { callee := .builtin .append, args := #[s, x], argTypes := #[t, t] })
  (e : TypeId) (i : TypeInfo) (z : Value) (size bytes : Nat) (ht : P.underlying t = some (.slice e)) (hi : P.info? e = some i) (hz : i.zero = some z)
  (hsize : i.size = size) (hby : i.bytes = bytes) (hzs : z.cells.size = size) (hsz : 0 < size)
  (v : Value) (n : Nat) (xs : List Value) (hs : a.eval s = v) (hv : IsVec S w e size v n xs) (xv : Value) (m : Nat) (news : List Value) (hx : a.eval x = xv) (hc : IsCells T w xv m news)
  (hl : news.length = m * size) (h1 : ∀ u ∈ news, u.oneCell' = true) (h63 : n + m ≤ maxLen) (hbytes : (n + m) * bytes ≤ 140737488355328)
  (h : ∀ v' w', IsVec (fun k => S k ∨ w.heap.size ≤ k) w' e size v' (n + m) (xs ++ news) → Mod S w w' → K (a.put o.dst v') w') :
  if Region.wanted o (yielded ops a.tmps) = true then Oper.wp P o a w K Q else E := by
 have hw : Region.wanted o (yielded ops a.tmps) = true := by simp [Region.wanted, hgd]
 rw [if_pos hw]
 obtain ⟨v', w', hr, h2, h3⟩ := vec_append (P := P) t o.type e i z size bytes ht hi hz hsize hby hzs hsz hv hc hl h1 h63 hbytes
 unfold Oper.wp execOp
 simp only [ho, resolve, invoke, builtin, Sem.run_bind, Sem.run_pure, Result.andThen_ok, List.map_toArray, List.map_cons, List.map_nil, hs, hx, hr]
 exact h v' w' h2 h3
end
end Go.Proofs.YtdfahddpkkeldaaGreat

/- A region that draws its order: an operation that yields in whatever world is taken first, though the last store does not wait for it. -/
import Derived.Test.YtpkhjdhbkkepgaaTail
namespace Go.Proofs.Ytpkhjdhbkkepgaa
open Go
section
variable {P : Program} {ops : Array Oper} {Q : Exit → Act → World → Prop} {md : Region.Mode} {S : World → Prop} {n : Nat}

theorem anyTill_free {i : Nat} {o : Oper} {v : Value} (ho : ops[i]? = some o) (hsel : ∀ (j : Nat) (o : Oper) cs b, ops[j]? = some o → o.op ≠ .select cs b)
    (hQ : ∀ c a w, Q (.panic c) (a.put o.dst v) w → Q (.panic c) a w) (hni : n ≠ i) :
    ∀ (f : Nat) (l : Array Bool) (a : Act) (w : World),
      (∀ j oj, ops[j]? = some oj → j ≠ i → l.getD j true = false → (∀ e ∈ oj.after, Region.binds md e = true → e.on ≠ i) → o.apart ops oj = true) →
      i ∈ Region.ready md ops l → YieldsIf P ops (fun _ => True) o v a → (l.getD n true = false → S w) →
      AnyTill P md ops Q S n f (l.setIfInBounds i true) (a.put o.dst v) w → AnyTill P md ops Q S n (f + 1) l a w := by
  intro f
  induction f with
  | zero =>
    intro l a w _ hr hy hS H
    refine ⟨fun h => (by rw [h] at hr; cases hr), fun j hj => ?_⟩
    by_cases hji : j = i
    · subst hji; exact hy.wpOp ho trivial ⟨fun h => hS (by rwa [getD_set_ne true (Ne.symm hni)] at h), H⟩
    · exact absurd (ready_mono hj hji) (by rw [H.1]; simp)
  | succ f ih =>
    intro l a w hfree hr hy hS H
    refine ⟨fun h => (by rw [h] at hr; cases hr), fun j hj => ?_⟩
    by_cases hji : j = i
    · subst hji; exact hy.wpOp ho trivial ⟨fun h => hS (by rwa [getD_set_ne true (Ne.symm hni)] at h), H⟩
    · obtain ⟨hju, oj, hoj, hall⟩ := mem_ready.1 hj
      have hwait : ∀ e ∈ oj.after, Region.binds md e = true → e.on ≠ i := fun e he hb heq => by
        have h1 := hall e he hb
        have h0 := (mem_ready.1 hr).1
        rw [heq] at h1
        rcases Nat.lt_or_ge i l.size with hs | hs
        · simp [hs] at h0 h1
          rw [h0] at h1
          cases h1
        · simp [Array.getElem?_eq_none hs] at h1
      have hstep := wpOp_putIf (S := fun _ => True) hoj (hfree j oj hoj hji hju hwait) (fun cs b => hsel i o cs b ho) (fun cs b => hsel j oj cs b hoj) hQ hy (H.2 j (ready_mono hj hji))
      have hfree' : ∀ k ok, ops[k]? = some ok → k ≠ i → (l.setIfInBounds j true).getD k true = false → (∀ e ∈ ok.after, Region.binds md e = true → e.on ≠ i) → o.apart ops ok = true := fun k ok hk hki hku hw => by
        refine hfree k ok hk hki ?_ hw
        by_cases hjk : j = k
        · subst hjk; exact hju
        · rwa [getD_set_ne true hjk] at hku
      refine wpOp_mono (fun a' w' h3 => ?_) hstep
      have hS' : (l.setIfInBounds j true).getD n true = false → S w' := fun h => h3.2.1 (by
        rw [Array.setIfInBounds_comm _ _ (Ne.symm hji), getD_set_ne true (Ne.symm hni)]
        exact h)
      refine ⟨hS', ih (l.setIfInBounds j true) a' w' hfree' (ready_mono hr (Ne.symm hji)) h3.1 hS' ?_⟩
      rw [Array.setIfInBounds_comm _ _ hji]
      exact h3.2.2
/-- number i, which yields in every world, is taken first -/
theorem till_free {i : Nat} {o : Oper} {v : Value} {f : Nat} {l : Array Bool} {a : Act} {w : World} (ho : ops[i]? = some o)
    (hs : Region.noSelect ops = true) (hf : Region.free md ops l i = true) (hr : (Region.ready md ops l).contains i = true) (hni : (n == i) = false)
    (hQ : ∀ c a w, Q (.panic c) (a.put o.dst v) w → Q (.panic c) a w) (hy : YieldsIf P ops (fun _ => True) o v a) (hS : l.getD n true = false → S w)
    (h : AnyTill P md ops Q S n f (l.setIfInBounds i true) (a.put o.dst v) w) : AnyTill P md ops Q S n (f + 1) l a w :=
  anyTill_free ho (Region.noSelect_spec hs) hQ (by simpa using hni) f l a w (Region.free_spec ho hf) (by simpa using hr) hy hS h
end
end Go.Proofs.Ytpkhjdhbkkepgaa

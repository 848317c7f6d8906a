/- A region that draws its order and whose last operation, number n, writes what its loads read: the loads are taken first; a condition S on the world is shown anew behind each operation, as long as operation n has not come up. -/
import Derived.Deep.RegionHeld3
namespace Go.Proofs.YtdfahddpkkeldaaGreat
section
variable {P : Program} {ops : Array Oper} {Q : Exit → Act → World → Prop} {md : Region.Mode} {S : World → Prop} {n : Nat}
/-- whatever order is picked; S holds behind every operation, till number n has come up -/
def AnyTill (P : Program) (md : Region.Mode) (ops : Array Oper) (Q : Exit → Act → World → Prop) (S : World → Prop) (n : Nat) : Nat → Array Bool → Act → World → Prop
 | 0, l, a, w => Region.ready md ops l = [] ∧ Q .normal a w
 | f + 1, l, a, w => (Region.ready md ops l = [] → Q .normal a w) ∧
  ∀ i ∈ Region.ready md ops l, wpOp P ops Q i (fun a' w' => ((l.setIfInBounds i true).getD n true = false → S w') ∧ AnyTill P md ops Q S n f (l.setIfInBounds i true) a' w') a w
theorem anyTill_any : ∀ (f : Nat) (l : Array Bool) (a : Act) (w : World), AnyTill P md ops Q S n f l a w → wpAny P md ops Q f l a w
 | 0, _, _, _, h => h
 | f + 1, _, _, _, h => ⟨h.1, fun i hi => wpOp_mono (fun a' w' h' => anyTill_any f _ a' w' h'.2) (h.2 i hi)⟩
theorem anyTill_first {i : Nat} {o : Oper} {v : Value} (ho : ops[i]? = some o) (hsel : ∀ (j : Nat) (o : Oper) cs b, ops[j]? = some o → o.op ≠ .select cs b)
  (hQ : ∀ c a w, Q (.panic c) (a.put o.dst v) w → Q (.panic c) a w) (hni : n ≠ i) (hn : ∃ on, ops[n]? = some on ∧ ∃ e ∈ on.after, Region.binds md e = true ∧ e.on = i) :
  ∀ (f : Nat) (l : Array Bool) (a : Act) (w : World),
   (∀ j oj, ops[j]? = some oj → j ≠ i → l.getD j true = false → (∀ e ∈ oj.after, Region.binds md e = true → e.on ≠ i) → o.apart ops oj = true) →
   i ∈ Region.ready md ops l → l.getD n true = false → YieldsIf P ops S o v a → S w →
   AnyTill P md ops Q S n f (l.setIfInBounds i true) (a.put o.dst v) w → AnyTill P md ops Q S n (f + 1) l a w := by
 have stays : ∀ (l : Array Bool), i ∈ Region.ready md ops l → ∀ j ∈ Region.ready md ops l, j ≠ n := by
  intro l hi j hj e
  subst e
  obtain ⟨on, h1, e, h2, h3, h4⟩ := hn
  obtain ⟨_, o', h5, h6⟩ := mem_ready.1 hj
  have : o' = on := Option.some.inj (h5.symm.trans h1)
  subst this
  have h7 := h6 e h2 h3
  have h8 := (mem_ready.1 hi).1
  rw [h4] at h7
  rcases Nat.lt_or_ge i l.size with hs | hs
  ·simp [hs] at h7 h8
   rw [h8] at h7
   cases h7
  ·simp [Array.getElem?_eq_none hs] at h7
 intro f
 induction f with
 | zero =>
  intro l a w _ hr _ hy hS H
  refine ⟨fun h => (by rw [h] at hr; cases hr), fun j hj => ?_⟩
  by_cases hji : j = i
  ·subst hji; exact hy.wpOp ho hS ⟨fun _ => hS, H⟩
  ·exact absurd (ready_mono hj hji) (by rw [H.1]; simp)
 | succ f ih =>
  intro l a w hfree hr hnl hy hS H
  refine ⟨fun h => (by rw [h] at hr; cases hr), fun j hj => ?_⟩
  by_cases hji : j = i
  ·subst hji; exact hy.wpOp ho hS ⟨fun _ => hS, H⟩
  ·have hjn := stays l hr j hj
   obtain ⟨hju, oj, hoj, hall⟩ := mem_ready.1 hj
   have hwait : ∀ e ∈ oj.after, Region.binds md e = true → e.on ≠ i := fun e he hb heq => by
    have h1 := hall e he hb
    have h0 := (mem_ready.1 hr).1
    rw [heq] at h1
    rcases Nat.lt_or_ge i l.size with hs | hs
    ·simp [hs] at h0 h1
     rw [h0] at h1
     cases h1
    ·simp [Array.getElem?_eq_none hs] at h1
   have hstep := wpOp_putIf (S := S) hoj (hfree j oj hoj hji hju hwait) (fun cs b => hsel i o cs b ho) (fun cs b => hsel j oj cs b hoj) hQ hy (H.2 j (ready_mono hj hji))
   have hfree' : ∀ k ok, ops[k]? = some ok → k ≠ i → (l.setIfInBounds j true).getD k true = false → (∀ e ∈ ok.after, Region.binds md e = true → e.on ≠ i) → o.apart ops ok = true := fun k ok hk hki hku hw => by
    refine hfree k ok hk hki ?_ hw
    by_cases hjk : j = k
    ·subst hjk; exact hju
    ·rwa [getD_set_ne true hjk] at hku
   have hn1 : (l.setIfInBounds j true).getD n true = false := by rw [getD_set_ne true hjn]; exact hnl
   have hn2 : ((l.setIfInBounds i true).setIfInBounds j true).getD n true = false := by rw [getD_set_ne true hjn, getD_set_ne true (Ne.symm hni)]; exact hnl
   refine wpOp_mono (fun a' w' h3 => ⟨fun _ => h3.2.1 hn2, ih (l.setIfInBounds j true) a' w' hfree' (ready_mono hr (Ne.symm hji)) hn1 h3.1 (h3.2.1 hn2) ?_⟩) hstep
   rw [Array.setIfInBounds_comm _ _ hji]
   exact h3.2.2
def waitsOn (md : Region.Mode) (ops : Array Oper) (n i : Nat) : Bool := match ops[n]? with | some o => o.after.any (fun e => Region.binds md e && e.on == i) | none => false
/-- number i is taken first -/
theorem till_take {i : Nat} {o : Oper} {v : Value} {f : Nat} {l : Array Bool} {a : Act} {w : World} (ho : ops[i]? = some o)
  (hs : Region.noSelect ops = true) (hf : Region.free md ops l i = true) (hr : (Region.ready md ops l).contains i = true) (hw : waitsOn md ops n i = true) (hni : (n == i) = false) (hnl : l.getD n true = false)
  (hQ : ∀ c a w, Q (.panic c) (a.put o.dst v) w → Q (.panic c) a w) (hy : YieldsIf P ops S o v a) (hS : S w)
  (h : AnyTill P md ops Q S n f (l.setIfInBounds i true) (a.put o.dst v) w) : AnyTill P md ops Q S n (f + 1) l a w := by
 refine anyTill_first ho (Region.noSelect_spec hs) hQ (by simpa using hni) ?_ f l a w (Region.free_spec ho hf) (by simpa using hr) hnl hy hS h
 unfold waitsOn at hw
 split at hw
 ·rename_i on hon
  obtain ⟨e, he, hb⟩ := Array.any_eq_true'.1 hw
  simp only [Bool.and_eq_true, beq_iff_eq] at hb
  exact ⟨on, hon, e, he, hb.1, hb.2⟩
 ·cases hw
/-- each of 'rs' comes up next -/
def AllTill (P : Program) (md : Region.Mode) (ops : Array Oper) (Q : Exit → Act → World → Prop) (S : World → Prop) (n f : Nat) (l : Array Bool) (a : Act) (w : World) (rs : List Nat) : Prop :=
 ∀ i ∈ rs, wpOp P ops Q i (fun a' w' => ((l.setIfInBounds i true).getD n true = false → S w') ∧ AnyTill P md ops Q S n f (l.setIfInBounds i true) a' w') a w
theorem till_ready {rs : List Nat} {f : Nat} {l : Array Bool} {a : Act} {w : World} (hr : Region.ready md ops l = rs) (hne : rs ≠ []) (h : AllTill P md ops Q S n f l a w rs) : AnyTill P md ops Q S n (f + 1) l a w :=
 ⟨fun h0 => absurd (hr ▸ h0) hne, hr ▸ h⟩
theorem till_nil {f : Nat} {l : Array Bool} {a : Act} {w : World} : AllTill P md ops Q S n f l a w [] := fun _ h => by cases h
theorem till_cons {f : Nat} {l : Array Bool} {a : Act} {w : World} {i : Nat} {o : Oper} {rs : List Nat} (ho : ops[i]? = some o)
  (h : ∀ K : Act → World → Prop, Shut (∀ a w, ((l.setIfInBounds i true).getD n true = false → S w) → AnyTill P md ops Q S n f (l.setIfInBounds i true) a w → K a w) → if Region.wanted o (yielded ops a.tmps) = true then Oper.wp P o a w K Q else K (a.put o.dst undef) w)
  (hs : AllTill P md ops Q S n f l a w rs) : AllTill P md ops Q S n f l a w (i :: rs) := fun j hj => by
 rcases List.mem_cons.1 hj with rfl | hj
 ·exact wpOp_step ho (fun K' hK => h K' (fun a w hS hW => hK a w ⟨hS, hW⟩))
 ·exact hs j hj
theorem till_done {l : Array Bool} {a : Act} {w : World} (hr : Region.ready md ops l = []) (h : Q .normal a w) : ∀ f, AnyTill P md ops Q S n f l a w
 | 0 => ⟨hr, h⟩
 | _ + 1 => ⟨fun _ => h, by rw [hr]; simp⟩
theorem region_till (S : World → Prop) (n : Nat) {id : Nat} {a : Act} {w : World} (hm : P.follows .mixedOrders = true)
  (h : AnyTill P .any ops Q S n ops.size (Array.replicate ops.size false) a w.drew) : (Code.region id ops true).wp P Q a w :=
 wp_region_any hm (anyTill_any _ _ _ _ h)
end
end Go.Proofs.YtdfahddpkkeldaaGreat

/- A region that draws its order: an operation that yields in whatever world is taken first, though the last store does not wait for it. -/
namespace Go.Proofs.YtdfahddpkkeldaaGreat
open Go
section
variable {P : Program} {ops : Array Oper} {Q : Exit → Act → World → Prop} {md : Region.Mode} {S : World → Prop} {n : Nat}
theorem anyTill_free {i : Nat} {o : Oper} {v : Value} (ho : ops[i]? = some o) (hsel : ∀ (j : Nat) (o : Oper) cs b, ops[j]? = some o → o.op ≠ .select cs b)
  (hQ : ∀ c a w, Q (.panic c) (a.put o.dst v) w → Q (.panic c) a w) (hni : n ≠ i) :
  ∀ (f : Nat) (l : Array Bool) (a : Act) (w : World),
   (∀ j oj, ops[j]? = some oj → j ≠ i → l.getD j true = false → (∀ e ∈ oj.after, Region.binds md e = true → e.on ≠ i) → o.apart ops oj = true) →
   i ∈ Region.ready md ops l → YieldsIf P ops (fun _ => True) o v a → (l.getD n true = false → S w) →
   AnyTill P md ops Q S n f (l.setIfInBounds i true) (a.put o.dst v) w → AnyTill P md ops Q S n (f + 1) l a w := by
 intro f
 induction f with
 | zero =>
  intro l a w _ hr hy hS H
  refine ⟨fun h => (by rw [h] at hr; cases hr), fun j hj => ?_⟩
  by_cases hji : j = i
  ·subst hji; exact hy.wpOp ho trivial ⟨fun h => hS (by rwa [getD_set_ne true (Ne.symm hni)] at h), H⟩
  ·exact absurd (ready_mono hj hji) (by rw [H.1]; simp)
 | succ f ih =>
  intro l a w hfree hr hy hS H
  refine ⟨fun h => (by rw [h] at hr; cases hr), fun j hj => ?_⟩
  by_cases hji : j = i
  ·subst hji; exact hy.wpOp ho trivial ⟨fun h => hS (by rwa [getD_set_ne true (Ne.symm hni)] at h), H⟩
  ·obtain ⟨hju, oj, hoj, hall⟩ := mem_ready.1 hj
   have hwait : ∀ e ∈ oj.after, Region.binds md e = true → e.on ≠ i := fun e he hb heq => by
    have h1 := hall e he hb
    have h0 := (mem_ready.1 hr).1
    rw [heq] at h1
    rcases Nat.lt_or_ge i l.size with hs | hs
    ·simp [hs] at h0 h1
     rw [h0] at h1
     cases h1
    ·simp [Array.getElem?_eq_none hs] at h1
   have hstep := wpOp_putIf (S := fun _ => True) hoj (hfree j oj hoj hji hju hwait) (fun cs b => hsel i o cs b ho) (fun cs b => hsel j oj cs b hoj) hQ hy (H.2 j (ready_mono hj hji))
   have hfree' : ∀ k ok, ops[k]? = some ok → k ≠ i → (l.setIfInBounds j true).getD k true = false → (∀ e ∈ ok.after, Region.binds md e = true → e.on ≠ i) → o.apart ops ok = true := fun k ok hk hki hku hw => by
    refine hfree k ok hk hki ?_ hw
    by_cases hjk : j = k
    ·subst hjk; exact hju
    ·rwa [getD_set_ne true hjk] at hku
   refine wpOp_mono (fun a' w' h3 => ?_) hstep
   have hS' : (l.setIfInBounds j true).getD n true = false → S w' := fun h => h3.2.1 (by
    rw [Array.setIfInBounds_comm _ _ (Ne.symm hji), getD_set_ne true (Ne.symm hni)]
    exact h)
   refine ⟨hS', ih (l.setIfInBounds j true) a' w' hfree' (ready_mono hr (Ne.symm hji)) h3.1 hS' ?_⟩
   rw [Array.setIfInBounds_comm _ _ hji]
   exact h3.2.2
/-- number i, which yields in every world, is taken first -/
theorem till_free {i : Nat} {o : Oper} {v : Value} {f : Nat} {l : Array Bool} {a : Act} {w : World} (ho : ops[i]? = some o)
  (hs : Region.noSelect ops = true) (hf : Region.free md ops l i = true) (hr : (Region.ready md ops l).contains i = true) (hni : (n == i) = false)
  (hQ : ∀ c a w, Q (.panic c) (a.put o.dst v) w → Q (.panic c) a w) (hy : YieldsIf P ops (fun _ => True) o v a) (hS : l.getD n true = false → S w)
  (h : AnyTill P md ops Q S n f (l.setIfInBounds i true) (a.put o.dst v) w) : AnyTill P md ops Q S n (f + 1) l a w :=
 anyTill_free ho (Region.noSelect_spec hs) hQ (by simpa using hni) f l a w (Region.free_spec ho hf) (by simpa using hr) hy hS h
end
end Go.Proofs.YtdfahddpkkeldaaGreat

/- Entries of a log (package chain), and slices of them. -/
import Derived.Test.YtjjcmdblohbneaaGreatBytesB
namespace Go.Proofs.YtjjcmdblohbneaaGreat
open Go.RowKit
structure En where
  k : Int
  b : List UInt8
deriving DecidableEq
/-- the cells of entries whose bodies are the slices xs -/
def ensC : List En → List Value → List Value
  | e :: l, x :: xs => .int .i64 e.k :: x :: ensC l xs
  | _, _ => []
theorem ensC_length : ∀ (l : List En) (xs : List Value), xs.length = l.length → (ensC l xs).length = l.length * 2
  | [], [], _ => rfl
  | e :: l, x :: xs, h => by rw [ensC, List.length_cons, List.length_cons, ensC_length l xs (by simpa using h), List.length_cons]; omega
  | [], _ :: _, h => by simp at h
  | _ :: _, [], h => by simp at h
theorem ensC_snoc (e : En) (x : Value) : ∀ (l : List En) (xs : List Value), xs.length = l.length → ensC (l ++ [e]) (xs ++ [x]) = ensC l xs ++ [.int .i64 e.k, x]
  | [], [], _ => rfl
  | a :: l, y :: xs, h => by rw [List.cons_append, List.cons_append, ensC, ensC_snoc e x l xs (by simpa using h), ensC]; rfl
  | [], _ :: _, h => by simp at h
  | _ :: _, [], h => by simp at h
theorem ensC_get : ∀ (l : List En) (xs : List Value) (i : Nat) (hi : i < l.length) (hx : i < xs.length), (ensC l xs)[2 * i]? = some (.int .i64 l[i].k) ∧ (ensC l xs)[2 * i + 1]? = some xs[i]
  | e :: l, x :: xs, 0, _, _ => ⟨rfl, rfl⟩
  | e :: l, x :: xs, i + 1, hi, hx => by
    have := ensC_get l xs i (by simpa using hi) (by simpa using hx)
    rw [ensC, show 2 * (i + 1) = 2 * i + 1 + 1 by omega, List.getElem?_cons_succ, List.getElem?_cons_succ, List.getElem?_cons_succ, List.getElem?_cons_succ, List.getElem_cons_succ, List.getElem_cons_succ]
    exact this
/-- a slice of entries that is read -/
def IsEns (S : Nat → Prop) (w : World) (v : Value) (l : List En) : Prop := ∃ vs, IsCells S w v l.length (ensC l vs) ∧ Each2 (fun x (e : En) => IsRow S w x (bys e.b)) vs l
theorem IsEns.form {S : Nat → Prop} {w : World} {v : Value} {l : List En} (h : IsEns S w v l) : ∃ p c, v = .slice p l.length c := by
  obtain ⟨vs, ⟨p, c, hv, -⟩, -⟩ := h
  exact ⟨p, c, hv⟩
theorem IsEns.mod {S T : Nat → Prop} {w w' : World} {v : Value} {l : List En} (h : IsEns S w v l) (m : Mod T w w') (hs : ∀ k, k < w.heap.size → S k → ¬ T k) : IsEns S w' v l := by
  obtain ⟨vs, h1, h2⟩ := h
  exact ⟨vs, h1.mod m hs, each2_imp (fun a b r => r.mod m hs) h2⟩
theorem IsEns.modNil {S : Nat → Prop} {w w' : World} {v : Value} {l : List En} (h : IsEns S w v l) (m : Mod Go.Proofs.YtjjcmdblohbneaaGreat.nil w w') : IsEns S w' v l := h.mod m (fun _ _ _ f => f)
theorem IsCells.mono {S T : Nat → Prop} {w : World} {v : Value} {n : Nat} {xs : List Value} (h : IsCells S w v n xs) (hs : ∀ k, k < w.heap.size → S k → T k) : IsCells T w v n xs := by
  obtain ⟨p, c, rfl, hc⟩ := h
  refine ⟨p, c, rfl, fun i hi => ?_⟩
  obtain ⟨b, off, h1, h2, h3, h4⟩ := hc i hi
  exact ⟨b, off, h1, hs b h3 h2, h3, h4⟩
theorem IsEns.mono {S T : Nat → Prop} {w : World} {v : Value} {l : List En} (h : IsEns S w v l) (hs : ∀ k, k < w.heap.size → S k → T k) : IsEns T w v l := by
  obtain ⟨vs, h1, h2⟩ := h
  exact ⟨vs, h1.mono hs, each2_imp (fun a b r => r.mono hs) h2⟩
theorem IsEns.nil (S : Nat → Prop) (w : World) (p : Option Addr) (c : Nat) : IsEns S w (.slice p 0 c) [] := ⟨[], ⟨p, c, rfl, fun i hi => by simp [ensC] at hi⟩, trivial⟩
/-- one of the entries -/
theorem IsEns.at {S : Nat → Prop} {w : World} {p : Option Addr} {n c : Nat} {l : List En} (h : IsEns S w (.slice p n c) l) (i : Nat) (hi : i < l.length) :
    ∃ b off x, p = some ⟨b, off, none⟩ ∧ S b ∧ b < w.heap.size ∧ w.cell? ⟨b, off + i * 2, none⟩ = some (.int .i64 l[i].k) ∧ w.cell? ⟨b, off + i * 2 + 1, none⟩ = some x ∧ IsRow S w x (bys l[i].b) := by
  obtain ⟨vs, ⟨p', c', hv, hc⟩, h2⟩ := h
  simp only [Value.slice.injEq] at hv
  obtain ⟨rfl, -, -⟩ := hv
  have hl := each2_length h2
  have hlen := ensC_length l vs hl
  obtain ⟨g0, g1⟩ := ensC_get l vs i hi (by omega)
  obtain ⟨b, off, rfl, h3, h4, h5⟩ := hc (2 * i) (by omega)
  obtain ⟨b1, off1, e1, -, -, h6⟩ := hc (2 * i + 1) (by omega)
  simp only [Option.some.injEq, Addr.mk.injEq, and_true] at e1
  obtain ⟨rfl, rfl⟩ := e1
  obtain ⟨h', hr⟩ := each2_get h2 i (by omega)
  refine ⟨b, off, vs[i], rfl, h3, h4, ?_, ?_, hr⟩
  · rw [show off + i * 2 = off + 2 * i by omega, h5, List.getD_eq_getElem?_getD, g0]; rfl
  · rw [show off + i * 2 + 1 = off + (2 * i + 1) by omega, h6, List.getD_eq_getElem?_getD, g1]; rfl
/-- v is a slice of n entries of the program's own, all of it in blocks of S; no body lies in the slice's own block -/
def IsEnts (S : Nat → Prop) (w : World) (v : Value) (n : Nat) (l : List En) : Prop :=
  l.length = n ∧ ∃ vs, IsVec S w 36 2 v n (ensC l vs) ∧ Each2 (fun x (e : En) => IsRow (fun k => S k ∧ ¬ v.ownBlock = some k) w x (bys e.b)) vs l
theorem IsEnts.nil (S : Nat → Prop) (w : World) : IsEnts S w (.slice none 0 0) 0 [] := ⟨rfl, [], IsVec.nil _ _ _ _, trivial⟩
theorem IsEnts.form {S : Nat → Prop} {w : World} {v : Value} {n : Nat} {l : List En} (h : IsEnts S w v n l) : ∃ p c, v = .slice p n c := by
  obtain ⟨-, vs, h1, h2⟩ := h
  exact h1.form
theorem IsEnts.mod {S T : Nat → Prop} {w w' : World} {v : Value} {n : Nat} {l : List En} (h : IsEnts S w v n l) (m : Mod T w w') (hs : ∀ k, k < w.heap.size → S k → ¬ T k) : IsEnts S w' v n l := by
  obtain ⟨h0, vs, h1, h2⟩ := h
  exact ⟨h0, vs, h1.mod m hs, each2_imp (fun a b r => r.mod m (fun k hk h => hs k hk h.1)) h2⟩
theorem IsEnts.modNil {S : Nat → Prop} {w w' : World} {v : Value} {n : Nat} {l : List En} (h : IsEnts S w v n l) (m : Mod Go.Proofs.YtjjcmdblohbneaaGreat.nil w w') : IsEnts S w' v n l := h.mod m (fun _ _ _ f => f)
theorem IsEnts.mono {S T : Nat → Prop} {w : World} {v : Value} {n : Nat} {l : List En} (h : IsEnts S w v n l) (hs : ∀ k, k < w.heap.size → S k → T k) : IsEnts T w v n l := by
  obtain ⟨h0, vs, h1, h2⟩ := h
  exact ⟨h0, vs, h1.mono hs, each2_imp (fun a b r => r.mono (fun k hk h => ⟨hs k hk h.1, h.2⟩)) h2⟩
theorem IsEnts.own {S : Nat → Prop} {w : World} {v : Value} {n : Nat} {l : List En} (h : IsEnts S w v n l) {k : Nat} (hk : v.ownBlock = some k) : S k ∧ k < w.heap.size := by
  obtain ⟨h0, vs, h1, h2⟩ := h
  refine ⟨h1.2 k hk, ?_⟩
  rcases h1.1.2 with ⟨rfl, _⟩ | ⟨g', cap, cur, rfl, _, hh, _⟩
  · simp [Value.ownBlock] at hk
  · simp [Value.ownBlock] at hk
    subst hk
    exact heap_lt hh
theorem IsEnts.read {S : Nat → Prop} {w : World} {v : Value} {n : Nat} {l : List En} (h : IsEnts S w v n l) : IsEns S w v l := by
  obtain ⟨rfl, vs, h1, h2⟩ := h
  exact ⟨vs, h1.cells, each2_imp (fun a b r => r.mono (fun k _ h => h.1)) h2⟩
theorem info_entry : (Tryz.prog.info? 36).map (fun i => (i.zero, i.size, i.bytes)) = some (some (.agg #[.int .i64 0, .slice none 0 0]), 2, 32) := by kernel_rfl
theorem cellsTwo (w : World) (E : TypeId) (u x : Value) (g : Nat) (hg : w.heap.size = g) : IsCells (· = g) (w.alloc (.cells #[u, x] E)) (.slice (some ⟨g, 0, none⟩) 1 1) 1 [u, x] := by
  subst hg
  refine ⟨_, 1, rfl, fun i hi => ⟨w.heap.size, 0, rfl, rfl, by simp, ?_⟩⟩
  have hi2 : i < 2 := by simpa using hi
  rw [cell_of (heap_alloc_new w (.cells #[u, x] E))]
  match i, hi2 with
  | 0, _ => rfl
  | 1, _ => rfl
/-- append of one entry -/
theorem ents_append {S R : Nat → Prop} {w : World} (ty : TypeId) {v x : Value} {n g : Nat} {l : List En} {e : En} (h : IsEnts S w v n l) (hx : IsRow R w x (bys e.b)) (hRS : ∀ k, R k → S k ∧ ¬ v.ownBlock = some k) (hg : w.heap.size = g) (hb : n + 1 ≤ 1000000000) :
    ∃ v' w', (Builtin.append_ #[33, 33] ty #[v, .slice (some ⟨g, 0, none⟩) 1 1]).run Tryz.prog (w.alloc (.cells #[.int .i64 e.k, x] 36)) = .ok v' w' ∧ IsEnts (fun k => S k ∨ w.heap.size ≤ k) w' v' (n + 1) (l ++ [e]) ∧ Mod (fun k => v.ownBlock = some k) w w' ∧ ∀ k, v'.ownBlock = some k → v.ownBlock = some k ∨ w.heap.size ≤ k := by
  obtain ⟨i0, hi, hz0, hz1, hz2⟩ := info_parts info_entry
  obtain ⟨h0, vs, h1, h2⟩ := h
  have hm : Mod Go.Proofs.YtjjcmdblohbneaaGreat.nil w (w.alloc (.cells #[.int .i64 e.k, x] 36)) := (Mod.refl _ w).alloc _
  have hone : x.oneCell' = true := by obtain ⟨p, c, rfl, _⟩ := hx; rfl
  obtain ⟨v', w', hr, h3, h4⟩ := vec_append (P := Tryz.prog) 33 ty 36 i0 _ 2 32 Tryz.underlying33 hi hz0 hz1 hz2 rfl (by omega) (show IsVec (fun k => v.ownBlock = some k) _ _ _ _ _ _ from ⟨(h1.modNil hm).1, fun _ h => h⟩) (cellsTwo w 36 (.int .i64 e.k) x g hg) rfl (by
    intro u hu
    rcases List.mem_cons.1 hu with rfl | hu
    · rfl
    · rw [List.mem_singleton.1 hu]; exact hone) (by unfold maxLen; omega) (by omega)
  rw [← ensC_snoc e x l vs (each2_length h2)] at h3
  have hob : ∀ k, v.ownBlock = some k → k < w.heap.size := fun k hk => by
    rcases h1.1.2 with ⟨rfl, _⟩ | ⟨g', cap, cur, rfl, _, hh, _⟩
    · simp [Value.ownBlock] at hk
    · simp [Value.ownBlock] at hk
      subst hk
      exact heap_lt hh
  have hmw : Mod (fun k => v.ownBlock = some k) w w' := hm.ofNil.trans h4 (fun _ _ h => h)
  refine ⟨v', w', hr, ⟨by rw [List.length_append, h0]; rfl, _, h3.mono (fun k _ hk => hk.elim (fun h => .inl (h1.2 k h)) (fun h => .inr (Nat.le_trans hm.size h))), each2_snoc ?_ (each2_imp (fun a b r => ?_) h2)⟩, hmw, fun k ho => (h3.2 k ho).imp id (fun h => Nat.le_trans hm.size h)⟩
  · exact (hx.here.mod hmw (fun k _ hk ho => (hRS k hk.1).2 ho)).mono (fun k _ hk => ⟨.inl (hRS k hk.1).1, fun ho => by
      rcases h3.2 k ho with h' | h'
      · exact (hRS k hk.1).2 h'
      · have := hm.size; have := hk.2; omega⟩)
  · exact (r.here.mod hmw (fun k _ hk ho => hk.1.2 ho)).mono (fun k _ hk => ⟨.inl hk.1.1, fun ho => by
      rcases h3.2 k ho with h' | h'
      · exact hk.1.2 h'
      · have := hm.size; have := hk.2; omega⟩)
end Go.Proofs.YtjjcmdblohbneaaGreat

/- Package chain: Same. -/
namespace Go.Proofs.YtjjcmdblohbneaaGreat
open Go.RowKit
theorem entSame1 (S T : Nat → Prop) (k1 k2 : Int) (pa pb : Option Addr) (na ca nb cb : Nat) (la lb : List UInt8) (w : World) (ha : IsRow S w (.slice pa na ca) (bys la)) (hb : IsRow T w (.slice pb nb cb) (bys lb)) :
    Calls Tryz.prog 41 #[.agg #[.int .i64 k1, .slice pa na ca], .agg #[.int .i64 k2, .slice pb nb cb]] w fun e w' => e = .returned (.bool (decide (En.mk k1 la = En.mk k2 lb))) ∧ Mod nil w w' := by
  refine (?_ : ∀ Post : Ending → World → Prop, Hid (∀ e w', (e = .returned (.bool (decide (En.mk k1 la = En.mk k2 lb))) ∧ Mod nil w w') → Post e w') → Calls Tryz.prog 41 #[.agg #[.int .i64 k1, .slice pa na ca], .agg #[.int .i64 k2, .slice pb nb cb]] w Post) _ (Lib.hid (fun _ _ h => h))
  intro Post HPOST
  have HM : Hid (∀ o1 o2, Mod nil w ((w.alloc o1).alloc o2)) := Lib.hid (fun o1 o2 => ((Mod.refl _ _).alloc _).alloc _)
  have HC : Hid (∀ W, Mod nil w W → Calls Tryz.prog 42 #[.slice pa na ca, .slice pb nb cb] W fun e w' => e = .returned (.bool (decide (la = lb))) ∧ W = w') := Lib.hid (fun W m => bytesEqual S T _ _ la lb W (ha.modNil m) (hb.modNil m))
  clear ha hb
  by_cases hk : k1 = k2
  · subst hk
    have HE : Hid (∀ o1 o2, Post (.returned (.bool (decide (la = lb)))) ((w.alloc o1).alloc o2)) := Lib.hid (fun o1 o2 => HPOST.out _ _ ⟨by simp, HM.out o1 o2⟩)
    have hkk : (k1 == k1) = true := by simp
    obtain ⟨r, hr⟩ : ∃ r, decide (la = lb) = r := ⟨_, rfl⟩
    rw [hr] at HC HE
    clear hr
    go_enter Tryz.func41, Tryz.ntmps41
    go_wp2_with fail
    refine (HC.out _ (HM.out _ _)).mono ?_
    rintro e w' ⟨rfl, rfl⟩
    go_wp2_with fail
    exact HE.out _ _
  · have HE : Hid (∀ o1 o2, Post (.returned (.bool false)) ((w.alloc o1).alloc o2)) := Lib.hid (fun o1 o2 => HPOST.out _ _ ⟨by simp [hk], HM.out o1 o2⟩)
    have hkk : (k1 == k2) = false := by simp [hk]
    clear hk
    go_enter Tryz.func41, Tryz.ntmps41
    go_wp2_with fail
    exact HE.out _ _
set_option maxRecDepth 100000 in
set_option maxHeartbeats 2000000 in
theorem equalEnts (S T : Nat → Prop) (pa pb : Option Addr) (na ca nb cb : Nat) (la lb : List En) (w : World) (ha : IsEns S w (.slice pa na ca) la) (hb : IsEns T w (.slice pb nb cb) lb) (hm : na ≤ 1000000) :
    Calls Tryz.prog 40 #[.slice pa na ca, .slice pb nb cb, .func (.func 41) #[] #[]] w fun e w' => e = .returned (.bool (decide (la = lb))) ∧ Mod nil w w' := by
  refine (?_ : ∀ Post : Ending → World → Prop, Hid (∀ e w', (e = .returned (.bool (decide (la = lb))) ∧ Mod nil w w') → Post e w') → Calls Tryz.prog 40 #[.slice pa na ca, .slice pb nb cb, .func (.func 41) #[] #[]] w Post) _ (Lib.hid (fun _ _ h => h))
  intro Post HPOST
  have hla : la.length = na := by obtain ⟨_, _, h⟩ := ha.form; simp only [Value.slice.injEq] at h; exact h.2.1.symm
  have hlb : lb.length = nb := by obtain ⟨_, _, h⟩ := hb.form; simp only [Value.slice.injEq] at h; exact h.2.1.symm
  by_cases hnm : na = nb
  · subst hnm
    have HA := Lib.hid ha
    have HB := Lib.hid hb
    have HLA := Lib.hid hla
    have HLB := Lib.hid hlb
    have hne : ((na : Int) != (na : Int)) = false := by simp
    clear ha hb hla hlb
    go_enter Tryz.func40, Tryz.ntmps40
    go_wp2_with fail
    clear hne
    go_loopw [17] (fun v wr => ∃ i : Nat, i ≤ na ∧ v = .int .i64 i ∧ Hid (la.take i = lb.take i) ∧ Hid (Mod nil w wr)) (fun v _ => na - (intOf v).toNat)
    case atStart => exact ⟨0, by omega, rfl, Lib.hid (by simp), Lib.hid (Mod.refl _ _)⟩
    case round =>
      obtain ⟨i, hi, rfl, HTK, HM⟩ := hrel
      by_cases hlt : i < na
      · have hia : i < la.length := by rw [HLA.out]; exact hlt
        have hib : i < lb.length := by rw [HLB.out]; exact hlt
        obtain ⟨ba, oa, va, rfl, -, hal, k0, k1, hxa⟩ := (HA.out.modNil HM.out).at i hia
        obtain ⟨bb, ob, vb, rfl, -, hbl, q0, q1, hxb⟩ := (HB.out.modNil HM.out).at i hib
        have HTA : Hid (la.take (i + 1) = la.take i ++ [la[i]]) := Lib.hid (List.take_succ_eq_append_getElem hia)
        have HTB : Hid (lb.take (i + 1) = lb.take i ++ [lb[i]]) := Lib.hid (List.take_succ_eq_append_getElem hib)
        obtain ⟨x, hx⟩ : ∃ x, la[i] = x := ⟨_, rfl⟩
        obtain ⟨y, hy⟩ : ∃ y, lb[i] = y := ⟨_, rfl⟩
        rw [hx] at k0 hxa HTA
        rw [hy] at q0 hxb HTB
        obtain ⟨kx, bx⟩ := x
        obtain ⟨ky, bY⟩ := y
        simp only at k0 q0 hxa hxb
        obtain ⟨p1, c1, rfl, -⟩ := id hxa
        obtain ⟨p2, c2, rfl, -⟩ := id hxb
        rw [bys_length] at k1 q1 hxa hxb
        obtain ⟨n1, hn1⟩ : ∃ n1, bx.length = n1 := ⟨_, rfl⟩
        obtain ⟨n2, hn2⟩ : ∃ n2, bY.length = n2 := ⟨_, rfl⟩
        rw [hn1] at k1 hxa
        rw [hn2] at q1 hxb
        have HC : Hid (∀ W, Mod nil wr W → Calls Tryz.prog 41 #[.agg #[.int .i64 kx, .slice p1 n1 c1], .agg #[.int .i64 ky, .slice p2 n2 c2]] W fun e w' => e = .returned (.bool (decide (En.mk kx bx = En.mk ky bY))) ∧ Mod nil W w') := Lib.hid (fun W m => entSame1 _ _ kx ky p1 p2 n1 c1 n2 c2 bx bY W (hxa.modNil m) (hxb.modNil m))
        have q0a := fun ob : Obj => cell_kept q0 ((Mod.refl nil wr).alloc ob) hbl (not_nil _)
        have q1a := fun ob : Obj => cell_kept q1 ((Mod.refl nil wr).alloc ob) hbl (not_nil _)
        clear hx hy hxa hxb hn1 hn2
        go_upto_region 7 with (fail)
        generalize hw1 : World.alloc (World.alloc wr _) _ = w1
        have hm1 : Mod nil wr w1 := by rw [← hw1]; exact ((Mod.refl _ _).alloc _).alloc _
        have hb1 : w1.heap[wr.heap.size]? = some (.cells #[.int .i64 kx, .slice p1 n1 c1] 36 (0, 0)) := by rw [← hw1]; exact heap_alloc_old (heap_alloc_new _ _)
        have hb2 : w1.heap[wr.heap.size + 1]? = some (.cells #[.int .i64 ky, .slice p2 n2 c2] 36 (0, 0)) := by
          rw [← hw1]
          have h := heap_alloc_new (wr.alloc (.cells #[.int .i64 kx, .slice p1 n1 c1] 36)) (.cells #[.int .i64 ky, .slice p2 n2 c2] 36)
          rw [World.size_alloc] at h
          exact h
        have x0 := cell_of hb1 0
        have x1 := cell_of hb1 1
        have z0 := cell_of hb2 0
        have z1 := cell_of hb2 1
        simp only [List.getElem?_toArray, List.getElem?_cons_zero, List.getElem?_cons_succ] at x0 x1 z0 z1
        have HM1 := Lib.hid hm1
        clear hw1 hm1 hb1 hb2 k0 k1 q0 q1 q0a q1a
        by_cases hxy : En.mk kx bx = En.mk ky bY
        · rw [decide_eq_true hxy] at HC
          have HN : Hid (la.take (i + 1) = lb.take (i + 1)) := Lib.hid (by rw [HTA.out, HTB.out, HTK.out, hxy])
          clear HTA HTB hxy
          go_wp2_with fail
          refine (HC.out _ HM1.out).mono ?_
          rintro e w' ⟨rfl, hm'⟩
          have HM2 := Lib.hid ((HM.out.thenNil HM1.out).thenNil hm')
          clear hm' x0 x1 z0 z1
          go_wp2_with fail
          exact ⟨⟨i + 1, by omega, by go_num, HN, HM2⟩, by simp [intOf]; omega⟩
        · rw [decide_eq_false hxy] at HC
          have HNE : Hid (¬ la = lb) := Lib.hid (by
            intro e
            have h1 := HTA.out
            rw [e, HTB.out] at h1
            have h2 := List.append_cancel_left h1
            exact hxy (List.cons.inj h2).1.symm)
          clear HTA HTB hxy
          go_wp2_with fail
          refine (HC.out _ HM1.out).mono ?_
          rintro e w' ⟨rfl, hm'⟩
          have HE : Hid (Post (.returned (.bool false)) w') := Lib.hid (HPOST.out _ _ ⟨by rw [decide_eq_false HNE.out], (HM.out.thenNil HM1.out).thenNil hm'⟩)
          clear hm' x0 x1 z0 z1
          go_wp2_with fail
          exact HE.out
      · obtain rfl : i = na := by omega
        have HEND : Hid (Post (.returned (.bool true)) wr) := Lib.hid (HPOST.out _ _ ⟨by
          have h := HTK.out
          rw [List.take_of_length_le (by rw [HLA.out]; exact Nat.le_refl _), List.take_of_length_le (by rw [HLB.out]; exact Nat.le_refl _)] at h
          rw [decide_eq_true h], HM.out⟩)
        clear HTK HM
        go_wp2_with fail
        exact HEND.out
  · have hne : ((na : Int) != (nb : Int)) = true := by rw [bne_iff_ne]; omega
    have HEND : Hid (Post (.returned (.bool false)) w) := Lib.hid (HPOST.out _ _ ⟨by rw [decide_eq_false]; intro e; rw [e] at hla; omega, Mod.refl _ _⟩)
    clear ha hb hla hlb
    go_enter Tryz.func40, Tryz.ntmps40
    go_wp2_with fail
    exact HEND.out
theorem chainSame (S T : Nat → Prop) (pa pb : Option Addr) (na ca nb cb : Nat) (la lb : List En) (w : World) (ha : IsEns S w (.slice pa na ca) la) (hb : IsEns T w (.slice pb nb cb) lb) (hm : na ≤ 1000000) :
    Calls Tryz.prog 12 #[.slice pa na ca, .slice pb nb cb] w fun e w' => e = .returned (.bool (decide (la = lb))) ∧ Mod nil w w' := by
  have H := Lib.hid (equalEnts S T pa pb na ca nb cb la lb w ha hb hm)
  obtain ⟨r, hr⟩ : ∃ r, decide (la = lb) = r := ⟨_, rfl⟩
  rw [hr] at H ⊢
  clear ha hb hr
  go_enter Tryz.func12, Tryz.ntmps12
  go_wp2_with fail
  refine H.out.mono ?_
  rintro e w' ⟨rfl, hm'⟩
  have HM := Lib.hid hm'
  clear hm'
  go_wp2_with fail
  go_ret
  exact ⟨rfl, HM.out⟩
end Go.Proofs.YtjjcmdblohbneaaGreat

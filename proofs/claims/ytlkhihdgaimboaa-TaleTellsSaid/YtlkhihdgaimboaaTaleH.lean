/- Package tale: Events. -/
import Derived.Test.YtlkhihdgaimboaaTaleG
namespace Go.Proofs.Ytlkhihdgaimboaa
open Go.RowKit
attribute [local go_sem] Oper.semAt_some

theorem eventOf_congr (c d : List UInt8) (n : Nat) (h : ∀ j, j < 4 → c.getD j 0 = d.getD j 0) : eventOf c n = eventOf d n := by
  unfold eventOf
  rw [h 0 (by omega), h 1 (by omega), h 2 (by omega), h 3 (by omega)]
def eventsTo (b : List UInt8) (n : Nat) (k : Nat) : List EvM := (List.range k).map (fun x => eventOf ((b.drop (4 * x)).take 4) n)
def eventsF {N : Nat} (b : List UInt8) (n : Nat) (pre : List (Fin N)) : List EvM := pre.map (fun x => eventOf ((b.drop (4 * x.val)).take 4) n)
theorem eventsTo_length (b : List UInt8) (n k : Nat) : (eventsTo b n k).length = k := by simp [eventsTo]
theorem eventsF_range {N : Nat} (b : List UInt8) (n k : Nat) (pre : List (Fin N)) (h : pre.map (·.val) = List.range k) : eventsF b n pre = eventsTo b n k := by
  rw [eventsTo, ← h, List.map_map]; rfl
/-- what Events tells -/
def eventsAll (b : List UInt8) (n : Int) : List EvM := if 2 ≤ n ∧ n ≤ 16 then eventsTo b n.toNat (min (b.length / 4) 400) else []
def All2 {α β : Type} (R : α → β → Prop) : List α → List β → Prop
  | [], [] => True
  | a :: l, b :: m => R a b ∧ All2 R l m
  | [], _ :: _ => False
  | _ :: _, [] => False
/-- an owned slice of events, each of which tells its own, in blocks that are not the slice's -/
def Evd (S : Nat → Prop) (w : World) (v : Value) (n : Nat) (es : List Ev) (ms : List EvM) : Prop :=
  IsVec S w 32 15 v n (evs es) ∧ All2 (EvIs (fun k => S k ∧ ¬ v.ownBlock = some k) w) es ms
def EvAt (hx : Nat) (ms : List EvM) (n : Nat) (W : World) : Prop := ∃ p c es, W.heap[hx + 1]? = some (.cells #[.slice p n c] 24 (0, 0)) ∧ Evd (fun k => hx + 4 ≤ k) W (.slice p n c) n es ms
theorem EvAt.mk {hx : Nat} {ms : List EvM} {n : Nat} {W : World} {p : Option Addr} {c : Nat} {es : List Ev} (h : W.heap[hx + 1]? = some (.cells #[.slice p n c] 24 (0, 0))) (h' : Evd (fun k => hx + 4 ≤ k) W (.slice p n c) n es ms) : EvAt hx ms n W := ⟨p, c, es, h, h'⟩
theorem cell_block {w : World} {a : Addr} {v : Value} (h : w.cell? a = some v) : ∃ o, w.heap[a.block]? = some o ∧ o.isCells = true := by
  cases ho : w.heap[a.block]? with
  | none => simp [World.cell?, ho] at h
  | some o => cases o <;> first | exact ⟨_, rfl, rfl⟩ | simp [World.cell?, ho] at h
theorem IsRow.modCells {S T : Nat → Prop} {w w' : World} {v : Value} {xs : List Value} (h : IsRow S w v xs) (m : Mod T w w') (hT : ∀ k o, w.heap[k]? = some o → o.isCells = true → ¬ (T k ∧ S k)) : IsRow S w' v xs := by
  obtain ⟨p, c, rfl, hc⟩ := h
  refine ⟨p, c, rfl, fun i hi => ?_⟩
  obtain ⟨b, off, rfl, hS, hb, hx⟩ := hc i hi
  refine ⟨b, off, rfl, hS, Nat.lt_of_lt_of_le hb m.size, ?_⟩
  obtain ⟨o, ho, hoc⟩ := cell_block hx
  exact cell_kept hx m hb (fun ht => hT _ o ho hoc ⟨ht, hS⟩)
theorem EvIs.modCells {S T : Nat → Prop} {w w' : World} {e : Ev} {m : EvM} (h : EvIs S w e m) (hm : Mod T w w') (hT : ∀ k o, w.heap[k]? = some o → o.isCells = true → ¬ (T k ∧ S k)) : EvIs S w' e m :=
  ⟨h.1, h.2.1, h.2.2.1, h.2.2.2.1, h.2.2.2.2.1.modCells hm hT, h.2.2.2.2.2.modCells hm hT⟩
theorem all2_imp {α β : Type} {R R' : α → β → Prop} (hi : ∀ a b, R a b → R' a b) : ∀ {l : List α} {l' : List β}, All2 R l l' → All2 R' l l'
  | [], [], _ => trivial
  | _ :: _, _ :: _, h => ⟨hi _ _ h.1, all2_imp hi h.2⟩
  | [], _ :: _, h => h.elim
  | _ :: _, [], h => h.elim
theorem all2_snoc {α β : Type} {R : α → β → Prop} {a : α} {b : β} (hab : R a b) : ∀ {l : List α} {l' : List β}, All2 R l l' → All2 R (l ++ [a]) (l' ++ [b])
  | [], [], _ => ⟨hab, trivial⟩
  | _ :: _, _ :: _, h => ⟨h.1, all2_snoc hab h.2⟩
  | [], _ :: _, h => h.elim
  | _ :: _, [], h => h.elim
theorem all2_length {α β : Type} {R : α → β → Prop} : ∀ {l : List α} {l' : List β}, All2 R l l' → l.length = l'.length
  | [], [], _ => rfl
  | _ :: _, _ :: _, h => by simp [all2_length h.2]
  | [], _ :: _, h => h.elim
  | _ :: _, [], h => h.elim
theorem Evd.modCells {S T : Nat → Prop} {w w' : World} {v : Value} {n : Nat} {es : List Ev} {ms : List EvM} (h : Evd S w v n es ms) (m : Mod T w w') (hT : ∀ k o, w.heap[k]? = some o → o.isCells = true → ¬ (T k ∧ S k)) : Evd S w' v n es ms :=
  ⟨h.1.modCells m hT, all2_imp (fun _ _ h => h.modCells m (fun k o ho hc hk => hT k o ho hc ⟨hk.1, hk.2.1⟩)) h.2⟩
theorem Evd.mono {S T : Nat → Prop} {w : World} {v : Value} {n : Nat} {es : List Ev} {ms : List EvM} (h : Evd S w v n es ms) (hs : ∀ k, S k → T k) : Evd T w v n es ms :=
  ⟨h.1.mono (fun k _ hk => hs k hk), all2_imp (fun _ _ h => h.mono (fun k _ hk => ⟨hs k hk.1, hk.2⟩)) h.2⟩
theorem Evd.mod {S T : Nat → Prop} {w w' : World} {v : Value} {n : Nat} {es : List Ev} {ms : List EvM} (h : Evd S w v n es ms) (m : Mod T w w') (hs : ∀ k, k < w.heap.size → S k → ¬ T k) : Evd S w' v n es ms :=
  ⟨h.1.mod m hs, all2_imp (fun _ _ h => h.mod m (fun k hk hS => hs k hk hS.1)) h.2⟩
/-- append of one event more -/
theorem evd_snoc {S : Nat → Prop} {w wB wC w7 : World} {p p7 : Option Addr} {n c c7 : Nat} {es : List Ev} {ms : List EvM} {e : Ev} {m : EvM} (h : Evd S w (.slice p n c) n es ms) (hmB : Mod nil w wB) (he : EvIs (fun k => w.heap.size ≤ k) wB e m) (hmC : Mod nil wB wC)
    (hv7 : IsVec (fun k => (Value.slice p n c).ownBlock = some k ∨ wC.heap.size ≤ k) w7 32 15 (.slice p7 (n + 1) c7) (n + 1) (evs es ++ e.vals)) (hm7 : Mod (fun k => (Value.slice p n c).ownBlock = some k) wC w7) (hS : ∀ k, w.heap.size ≤ k → S k) : Evd S w7 (.slice p7 (n + 1) c7) (n + 1) (es ++ [e]) (ms ++ [m]) := by
  have hmWC : Mod nil w wC := hmB.thenNil hmC
  have hob : ∀ k, (Value.slice p n c).ownBlock = some k → k < w.heap.size := fun k hk => by
    obtain ⟨⟨_, h1⟩, h2⟩ := h.1
    rcases h1 with ⟨h3, _⟩ | ⟨g, cap, cur, h3, _, hh, _⟩
    · simp only [Value.slice.injEq] at h3
      obtain ⟨rfl, -, -⟩ := h3
      simp [Value.ownBlock] at hk
    · simp only [Value.slice.injEq] at h3
      obtain ⟨rfl, -, -⟩ := h3
      simp [Value.ownBlock] at hk
      subst hk
      exact heap_lt hh
  refine ⟨?_, all2_snoc ?_ (all2_imp (fun a b hab => ?_) h.2)⟩
  · have he : evs (es ++ [e]) = evs es ++ e.vals := by rw [evs_append]; simp [evs]
    rw [he]
    exact hv7.mono (fun k _ hk => hk.elim (fun hk => h.1.2 k hk) (fun hk => hS k (Nat.le_trans hmWC.size hk)))
  · have h1 : EvIs (fun k => w.heap.size ≤ k ∧ k < wB.heap.size) wB e m := by
      obtain ⟨a1, a2, a3, a4, ⟨q, cc, e1, f1⟩, ⟨q', cc', e2, f2⟩⟩ := he
      exact ⟨a1, a2, a3, a4, ⟨q, cc, e1, fun i hi => by obtain ⟨x, y, z1, z2, z3, z4⟩ := f1 i hi; exact ⟨x, y, z1, ⟨z2, z3⟩, z3, z4⟩⟩, ⟨q', cc', e2, fun i hi => by obtain ⟨x, y, z1, z2, z3, z4⟩ := f2 i hi; exact ⟨x, y, z1, ⟨z2, z3⟩, z3, z4⟩⟩⟩
    have h2 := (h1.mod hmC (fun _ _ _ => not_nil _)).mod hm7 (fun k _ hk ho => by have := hob k ho; have := hk.1; omega)
    exact h2.mono (fun k _ hk => ⟨hS k hk.1, fun ho => by
      rcases hv7.2 k ho with h' | h'
      · have := hob k h'; have := hk.1; omega
      · have := hmC.size; have := hk.2; omega⟩)
  · have h1 : EvIs (fun k => (S k ∧ ¬ (Value.slice p n c).ownBlock = some k) ∧ k < w.heap.size) w a b := by
      obtain ⟨a1, a2, a3, a4, ⟨q, cc, e1, f1⟩, ⟨q', cc', e2, f2⟩⟩ := hab
      exact ⟨a1, a2, a3, a4, ⟨q, cc, e1, fun i hi => by obtain ⟨x, y, z1, z2, z3, z4⟩ := f1 i hi; exact ⟨x, y, z1, ⟨z2, z3⟩, z3, z4⟩⟩, ⟨q', cc', e2, fun i hi => by obtain ⟨x, y, z1, z2, z3, z4⟩ := f2 i hi; exact ⟨x, y, z1, ⟨z2, z3⟩, z3, z4⟩⟩⟩
    have h2 := (h1.mod hmWC (fun _ _ _ => not_nil _)).mod hm7 (fun k _ hk => hk.1.2)
    exact h2.mono (fun k _ hk => ⟨hk.1.1, fun ho => by
      rcases hv7.2 k ho with h' | h'
      · exact hk.1.2 h'
      · have := hmWC.size; have := hk.2; omega⟩)
theorem one_vals (e : Ev) {S : Nat → Prop} {w : World} {m : EvM} (h : EvIs S w e m) : ∀ u ∈ e.vals, u.oneCell' = true := by
  obtain ⟨k, a, b, n, x, y⟩ := e
  obtain ⟨_, _, _, _, ⟨px, cx, rfl, _⟩, ⟨py, cy, rfl, _⟩⟩ := h
  intro u hu
  simp only [Ev.vals, List.mem_cons, List.not_mem_nil, or_false] at hu
  rcases hu with rfl | rfl | rfl | rfl | rfl | rfl | rfl | rfl | rfl | rfl | rfl | rfl | rfl | rfl | rfl <;> rfl
theorem events_done {L : Nat} (b : List UInt8) (nn : Nat) (hL : b.length = L) (hn : 2 ≤ (nn : Int) ∧ (nn : Int) ≤ 16) (ys : List (Fin (cnt L 4))) (hys : ys.map (·.val) = List.range (cnt L 4)) (h400 : ys.length ≤ 400) (hall : ∀ x ∈ ys, 4 * x.val + 4 ≤ L) : eventsF b nn ys = eventsAll b nn ∧ ys.length = (eventsAll b nn).length := by
  have hlen : ys.length = cnt L 4 := by have := congrArg List.length hys; simpa using this
  have hk : cnt L 4 = min (L / 4) 400 := by
    rcases Nat.eq_zero_or_pos (cnt L 4) with h | h
    · have := not_congr (cnt_lt (len := L) (c := 4) (k := 0) (by omega))
      rw [h] at this ⊢
      omega
    · have hlast : cnt L 4 - 1 ∈ ys.map (·.val) := by rw [hys]; exact List.mem_range.2 (by omega)
      obtain ⟨x, hx, hxv⟩ := List.mem_map.1 hlast
      have h1 := hall x hx
      have h2 := (not_congr (cnt_lt (len := L) (c := 4) (k := cnt L 4) (by omega))).1 (by omega)
      omega
  have he : eventsAll b nn = eventsTo b nn (cnt L 4) := by unfold eventsAll; rw [if_pos hn, hL, hk, Int.toNat_natCast]
  rw [he, eventsF_range b nn _ ys hys, eventsTo_length]
  exact ⟨rfl, hlen⟩
theorem events_stop {L : Nat} (b : List UInt8) (nn : Nat) (hL : b.length = L) (hn : 2 ≤ (nn : Int) ∧ (nn : Int) ≤ 16) (pre : List (Fin (cnt L 4))) (x : Fin (cnt L 4)) (k : Nat) (hys : (pre ++ [x]).map (·.val) = List.range k) (hd : L < 4 * x.val + 4 ∨ pre.length = 400) (h400 : pre.length ≤ 400) (hall : ∀ x ∈ pre, 4 * x.val + 4 ≤ L) : eventsF b nn pre = eventsAll b nn ∧ pre.length = (eventsAll b nn).length := by
  rcases k with _ | k
  · simp at hys
  rw [List.range_succ, List.map_append, List.map_cons, List.map_nil] at hys
  obtain ⟨h1, h2⟩ := List.append_inj' hys rfl
  simp only [List.cons.injEq, and_true] at h2
  have hlen : pre.length = k := by have := congrArg List.length h1; simpa using this
  have hk : k = min (L / 4) 400 := by
    rcases Nat.eq_zero_or_pos k with h | h
    · omega
    · have hlast : k - 1 ∈ pre.map (·.val) := by rw [h1]; exact List.mem_range.2 (by omega)
      obtain ⟨y, hy, hyv⟩ := List.mem_map.1 hlast
      have h3 := hall y hy
      omega
  have he : eventsAll b nn = eventsTo b nn k := by unfold eventsAll; rw [if_pos hn, hL, ← hk, Int.toNat_natCast]
  rw [he, eventsF_range b nn _ pre h1, eventsTo_length]
  exact ⟨rfl, hlen⟩
set_option maxRecDepth 100000 in
set_option maxHeartbeats 2000000 in
theorem taleEvents (T : Nat → Prop) (p0 : Option Addr) (len cap : Nat) (b : List UInt8) (n : Int) (w : World) (hrow : IsRow T w (.slice p0 len cap) (bys b)) (hcap : len ≤ cap) (hl : b.length ≤ 1099511627776) :
    Calls Try.prog 8 #[.slice p0 len cap, .int .i64 n] w fun e w' => ∃ v' es, e = .returned v' ∧ Evd (fun k => w.heap.size ≤ k) w' v' (eventsAll b n).length es (eventsAll b n) ∧ Mod nil w w' := by
  refine (?_ : ∀ Post : Ending → World → Prop, Hid (∀ e w', (∃ v' es, e = .returned v' ∧ Evd (fun k => w.heap.size ≤ k) w' v' (eventsAll b n).length es (eventsAll b n) ∧ Mod nil w w') → Post e w') → Calls Try.prog 8 #[.slice p0 len cap, .int .i64 n] w Post) _ (Lib.hid (fun _ _ h => h))
  intro Post HPOST
  have HROW := Lib.hid hrow
  obtain rfl : len = b.length := by
    obtain ⟨_, _, h, _⟩ := hrow
    simp only [Value.slice.injEq, bys_length] at h
    exact h.2.1
  obtain ⟨L, hL⟩ : ∃ L, b.length = L := ⟨_, rfl⟩
  rw [hL] at HROW hl hcap ⊢
  have HLB := Lib.hid hL
  clear hrow hL
  refine calls_over Try.func8 rfl ?_
  simp only [Try.ntmps8, List.size_toArray, List.length_cons, List.length_nil, Nat.reduceAdd, Nat.reduceSub, Array.replicate_succ, Array.replicate_zero, List.push_toArray, List.append_toArray, List.nil_append, List.cons_append]
  by_cases hn : 2 ≤ n ∧ n ≤ 16
  · go_upto_region 2 with (fail)
    obtain ⟨hx, hhx⟩ : ∃ hx, w.heap.size = hx := ⟨_, rfl⟩
    obtain ⟨nn, rfl⟩ : ∃ nn : Nat, n = nn := ⟨n.toNat, by omega⟩
    generalize hw1 : World.alloc (World.alloc _ _) _ = w1
    have hs1 : w1.heap.size = hx + 2 := by rw [← hw1]; simp [hhx]
    have hm1 : Mod nil w w1 := by rw [← hw1]; exact ((Mod.refl _ _).alloc _).alloc _
    have hbn : w1.heap[hx]? = some (.cells #[.int .i64 nn] 3 (0, 0)) := by rw [← hw1]; exact heap_alloc_old (by rw [← hhx]; exact heap_alloc_new _ _)
    have hbl : w1.heap[hx + 1]? = some (.cells #[.slice none 0 0] 24 (0, 0)) := by
      rw [← hw1]
      have := heap_alloc_new (w.alloc (.cells #[.int .i64 nn] 3)) (.cells #[.slice none 0 0] 24)
      rw [World.size_alloc, hhx] at this
      exact this
    have HM1 := Lib.hid hm1
    have HBN := Lib.hid hbn
    have HBL := Lib.hid hbl
    have HZ : Hid (w.heap.size = hx) := Lib.hid hhx
    have cn := cell_of hbn 0
    simp only [List.getElem?_toArray, List.getElem?_cons_zero] at cn
    rw [hhx]
    clear hw1 hm1 hbn hbl hhx
    go_wp2_with fail
    refine (taleMay nn w1).mono ?_
    rw [decide_eq_true hn]
    rintro e w2 ⟨rfl, rfl⟩
    clear cn
    go_wp2_with fail
    refine (chunk_call p0 L cap 4 (by omega) w1).mono ?_
    rw [hs1]
    rintro e w9 ⟨rfl, hw9⟩
    have hs9 : w9.heap.size = hx + 4 := by rw [hw9]; simp [hs1]
    have hm9 : Mod nil w1 w9 := by rw [hw9]; exact ((Mod.refl _ _).alloc _).alloc _
    have hBs : w9.cell? ⟨hx + 2, 0, none⟩ = some (.slice p0 L cap) := by
      have h : (w1.alloc (.cells #[.slice p0 L cap] 22)).heap[hx + 2]? = some (.cells #[.slice p0 L cap] 22 (0, 0)) := by rw [← hs1]; exact heap_alloc_new _ _
      rw [hw9]
      exact cell_of (heap_alloc_old h) 0
    have hBn : w9.cell? ⟨hx + 2 + 1, 0, none⟩ = some (.int .i64 (4 : Nat)) := by
      rw [hw9]
      exact cell_of (show ((w1.alloc (.cells #[.slice p0 L cap] 22)).alloc (.cells #[.int .i64 (4 : Nat)] 3)).heap[hx + 2 + 1]? = _ from by
        have := heap_alloc_new (w1.alloc (.cells #[.slice p0 L cap] 22)) (.cells #[.int .i64 (4 : Nat)] 3)
        rw [World.size_alloc, hs1] at this
        exact this) 0
    clear hw9
    have HM9 := Lib.hid (HM1.out.thenNil hm9)
    have HBN9 := Lib.hid (hm9.keep HBN.out)
    have HBL9 := Lib.hid (hm9.keep HBL.out)
    obtain ⟨g, o, hp0⟩ : ∃ g o, 0 < L → p0 = some ⟨g, o, none⟩ ∧ g < hx := by
      rcases Nat.eq_zero_or_pos L with h | h
      · exact ⟨0, 0, fun h' => by omega⟩
      · obtain ⟨p', c', hp, hc⟩ := HROW.out
        obtain ⟨b', o', h1, _, h3, _⟩ := hc 0 (by rw [bys_length, HLB.out]; exact h)
        simp only [Value.slice.injEq] at hp
        obtain ⟨rfl, -, -⟩ := hp
        exact ⟨b', o', fun _ => ⟨h1, by have := HZ.out; omega⟩⟩
    have HRA : Hid (∀ i, i < L → w9.cell? ⟨g, o + i, none⟩ = some (.int .u8 (b.getD i 0).toNat)) := Lib.hid (fun i hi => by
      obtain ⟨p', c', hp, hc⟩ := HROW.out
      obtain ⟨b', o', h1, _, h3, h4⟩ := hc i (by rw [bys_length, HLB.out]; exact hi)
      simp only [Value.slice.injEq] at hp
      obtain ⟨rfl, -, -⟩ := hp
      rw [(hp0 (by omega)).1] at h1
      simp only [Option.some.injEq, Addr.mk.injEq, and_true] at h1
      obtain ⟨rfl, rfl⟩ := h1
      rw [bys_getD _ _ (by rw [HLB.out]; exact hi)] at h4
      exact cell_kept h4 HM9.out h3 (not_nil _))
    have HGX := Lib.hid (fun (h : 0 < L) => (hp0 h).2)
    have hcs := chunk_stops 8 (by omega) (hx + 2) (hx + 2 + 1) g o L cap 4 p0 (fun h => (hp0 h).1) (by omega) (by omega) hcap hl (Mod (fun k => k = hx + 1 ∨ hx + 4 ≤ k)) (fun X Y y m h => cell_kept h m (World.block_lt_of_cell? _ _ h) (by omega)) (fun X Y y m h => cell_kept h m (World.block_lt_of_cell? _ _ h) (by omega)) w9 hBs hBn
    have HCS := Lib.hid hcs
    clear hcs hBs hBn hm9 hp0 HBN HBL HM1 hs1 HROW
    go_wp2_with fail
    refine (wpIn_wide (n := 9)).1 ?_
    generalize hfr : Act.mk _ _ = fr
    refine wpIn_rangeFunc_ownF (hro := rfl) (h1 := by omega) (gf := 32) (lb := #[.pointer (some ⟨hx + 2, 0, none⟩), .pointer (some ⟨hx + 2 + 1, 0, none⟩)]) (by rw [← hfr]; rfl) trivial (enters_of Try.func32 (by kernel_rfl) rfl) HCS.out (fun h k => h.trans k (fun _ _ h => h)) (fun W l o o' hl _ _ _ => mod_putObj W l o' (.inr (by omega))) (Below.refl _ _) (fun _ => rfl)
      (fun pre W => pre.length ≤ 400 ∧ (∀ x ∈ pre, 4 * x.val + 4 ≤ L) ∧ EvAt hx (eventsF b nn pre) pre.length W ∧ Mod (fun k => k = hx + 1 ∨ hx + 4 ≤ k) w9 W)
      (fun c pre W => c = .exit 0 ∧ ∃ pre' x, pre = pre' ++ [x] ∧ (L < 4 * x.val + 4 ∨ pre'.length = 400) ∧ pre'.length ≤ 400 ∧ (∀ x ∈ pre', 4 * x.val + 4 ≤ L) ∧ EvAt hx (eventsF b nn pre') pre'.length W ∧ Mod (fun k => k = hx + 1 ∨ hx + 4 ≤ k) w9 W)
      ?hI ?hIx ?h0 (fun x => ⟨(fr.tmps.setIfInBounds 12 (chunkAt g o L 4 x.val)).setIfInBounds 6 (chunkAt g o L 4 x.val), []⟩) ?assign ?body ?done ?stop
    case hI =>
      exact ownFrom_cells (fun pre X Y h m => by
        obtain ⟨h0, h1, ⟨p, c, es, h2, h3⟩, h4⟩ := h
        refine ⟨h0, h1, EvAt.mk ((m.block (hx + 1) (heap_lt h2) (fun hk => by omega)).trans h2) (h3.modCells m (fun k o ho hc hk => by obtain ⟨⟨_, o', ho', hc'⟩, _⟩ := hk; rw [ho] at ho'; cases ho'; rw [hc] at hc'; cases hc')), h4.trans m (fun k _ hk => .inr (by omega))⟩)
    case hIx =>
      exact fun c => ownFrom_cells (fun pre X Y h m => by
        obtain ⟨hc, pre', x, hp, hd, h0, h1, ⟨p, c, es, h2, h3⟩, h4⟩ := h
        refine ⟨hc, pre', x, hp, hd, h0, h1, EvAt.mk ((m.block (hx + 1) (heap_lt h2) (fun hk => by omega)).trans h2) (h3.modCells m (fun k o ho hc hk => by obtain ⟨⟨_, o', ho', hc'⟩, _⟩ := hk; rw [ho] at ho'; cases ho'; rw [hc] at hc'; cases hc')), h4.trans m (fun k _ hk => .inr (by omega))⟩)
    case h0 => exact ⟨by simp, by simp, EvAt.mk (es := []) HBL9.out ⟨IsVec.nil _ _ _ _, trivial⟩, Mod.refl _ _⟩
    case assign =>
      intro l x W K hK
      subst hfr
      gi_wp2
      exact hK
    case body =>
      rintro lq pre x W ⟨h400, hall, ⟨pv, cv, es, hbl, hvec⟩, hm⟩ hlen
      subst hfr
      simp only [List.setIfInBounds_toArray, List.set_cons_succ, List.set_cons_zero]
      have hxc : 4 * x.val < L := (cnt_lt (by omega)).1 x.isLt
      obtain ⟨N, hN⟩ : ∃ N, pre.length = N := ⟨_, rfl⟩
      have hfin : ∀ (W' : World), W' = W → KeepsOthers W W' ∧ (L < 4 * x.val + 4 ∨ N = 400 → (Code.exit 0 = Code.exit 0 ∧ ∃ pre' x', pre ++ [x] = pre' ++ [x'] ∧ (L < 4 * x'.val + 4 ∨ pre'.length = 400) ∧ pre'.length ≤ 400 ∧ (∀ x ∈ pre', 4 * x.val + 4 ≤ L) ∧ EvAt hx (eventsF b nn pre') pre'.length W' ∧ Mod (fun k => k = hx + 1 ∨ hx + 4 ≤ k) w9 W')) := fun W' e => by
        subst e
        exact ⟨KeepsOthers.refl _, fun h => ⟨rfl, pre, x, rfl, by rw [hN]; exact h, h400, hall, EvAt.mk hbl hvec, hm⟩⟩
      have HFIN := Lib.hid hfin
      have cl := cell_of hbl 0
      simp only [List.getElem?_toArray, List.getElem?_cons_zero] at cl
      rw [hN] at cl h400
      have HN := Lib.hid hN
      have HALL := Lib.hid hall
      have HBLW := Lib.hid hbl
      have HVW := Lib.hid hvec
      have HMW := Lib.hid hm
      obtain ⟨i, hi⟩ : ∃ i, 4 * x.val = i := ⟨_, rfl⟩
      rw [hi] at hxc
      have HI := Lib.hid hi
      clear hfin hN hall hbl hvec hm hi
      by_cases hfull : i + 4 ≤ L
      · have hch : chunkAt g o L 4 x.val = .slice (some ⟨g, o + i, none⟩) 4 4 := by unfold chunkAt; rw [HI.out, show min 4 (L - i) = 4 by omega]
        by_cases hmax : N = 400
        · have hmb : ((N : Int) == 400) = true := by simp; omega
          have HMAX := Lib.hid hmax
          clear hmax
          gi_wp2
          have h := HFIN.out W rfl
          have h' := h.2 (.inr HMAX.out)
          exact ⟨h.1, rfl, h'.2⟩
        · have hmb : ((N : Int) == 400) = false := by simp; omega
          have hgx : g < hx := HGX.out (by omega)
          have hcv : ∀ j, j < 4 → W.cell? ⟨g, o + i + j, none⟩ = some (.int .u8 (b.getD (i + j) 0).toNat) := fun j hj => by
            have h := HRA.out (i + j) (by omega)
            rw [← Nat.add_assoc] at h
            exact cell_kept h HMW.out (World.block_lt_of_cell? _ _ h) (by omega)
          have hcn : W.heap[hx]? = some (.cells #[.int .i64 nn] 3 (0, 0)) := (HMW.out.block hx (by omega) (by omega)).trans HBN9.out
          have hcnl := heap_lt hcn
          have HEVC : Hid (∀ w', Mod nil W w' → Calls Try.prog 22 #[.slice (some ⟨g, o + i, none⟩) 4 4, .int .i64 nn] w' fun e w'' => ∃ v : Ev, e = .returned (.agg v.vals.toArray) ∧ EvIs (fun k => w'.heap.size ≤ k) w'' v (eventOf ((b.drop i).take 4) nn) ∧ Mod nil w' w'') := Lib.hid (fun w' m => by
            have hg : eventOf ((b.drop i).take 4) nn = eventOf [b.getD (i + 0) 0, b.getD (i + 1) 0, b.getD (i + 2) 0, b.getD (i + 3) 0] nn := eventOf_congr _ _ _ (fun j hj => by
              have h1 : ((b.drop i).take 4).getD j 0 = b.getD (i + j) 0 := by simp [List.getD_eq_getElem?_getD, List.getElem?_take, List.getElem?_drop, hj]
              rw [h1]
              rcases (show j = 0 ∨ j = 1 ∨ j = 2 ∨ j = 3 by omega) with rfl | rfl | rfl | rfl <;> rfl)
            have hk : ∀ j, j < 4 → w'.cell? ⟨g, o + i + j, none⟩ = some (.int .u8 (b.getD (i + j) 0).toNat) := fun j hj => cell_kept (hcv j hj) m (World.block_lt_of_cell? _ _ (hcv j hj)) (not_nil _)
            rw [hg]
            exact taleEvent g (o + i) 4 _ _ _ _ nn w' (hk 0 (by omega)) (hk 1 (by omega)) (hk 2 (by omega)) (hk 3 (by omega)) (by omega) (by omega) (by omega))
          have HS : Hid (∀ w', Mod (fun k => k = hx + 1 ∨ hx + 4 ≤ k) W w' → w'.cell? ⟨hx, 0, none⟩ = some (.int .i64 nn)) := Lib.hid (fun w' m => cell_of ((m.block hx hcnl (by omega)).trans hcn) 0)
          clear hcv hcn
          gi_wp2
          have HBLN : Hid (W.heap[hx + 1]? = some (.cells #[.slice pv N cv] 24 (0, 0))) := Lib.hid (by have h := HBLW.out; rw [HN.out] at h; exact h)
          have HSZ : Hid (hx + 4 ≤ W.heap.size) := Lib.hid (by have := HMW.out.size; omega)
          obtain ⟨MS, hMS⟩ : ∃ MS, eventsF b nn pre = MS := ⟨_, rfl⟩
          obtain ⟨EM, hEM⟩ : ∃ EM, eventOf ((b.drop i).take 4) nn = EM := ⟨_, rfl⟩
          have HVN : Hid (Evd (fun k => hx + 4 ≤ k) W (.slice pv N cv) N es MS) := Lib.hid (by have h := HVW.out; rw [HN.out, hMS] at h; exact h)
          have HEND : Hid (∀ w' p7 q7 ev, KeepsOthers W w' → Mod (fun k => k = hx + 1 ∨ hx + 4 ≤ k) W w' → w'.heap[hx + 1]? = some (.cells #[.slice p7 (N + 1) q7] 24 (0, 0)) → Evd (fun k => hx + 4 ≤ k) w' (.slice p7 (N + 1) q7) (N + 1) (es ++ [ev]) (MS ++ [EM]) →
              KeepsOthers W w' ∧ ((pre ++ [x]).length ≤ 400 ∧ (∀ y ∈ (pre ++ [x]), 4 * y.val + 4 ≤ L) ∧ EvAt hx (eventsF b nn (pre ++ [x])) (pre ++ [x]).length w' ∧ Mod (fun k => k = hx + 1 ∨ hx + 4 ≤ k) w9 w')) := Lib.hid (fun w' p7 q7 ev k m hb hv => by
            have hl : (pre ++ [x]).length = N + 1 := by rw [List.length_append, HN.out]; rfl
            have ht : eventsF b nn (pre ++ [x]) = MS ++ [EM] := by
              rw [← hMS, ← hEM, ← HI.out]; simp [eventsF]
            rw [hl, ht]
            refine ⟨k, by omega, fun y hy => ?_, EvAt.mk hb hv, HMW.out.trans m (fun k _ hk => by omega)⟩
            rcases List.mem_append.1 hy with hy | hy
            · exact HALL.out y hy
            · have e : y = x := List.mem_singleton.1 hy
              rw [e]
              have := HI.out
              omega)
          rw [hEM] at HEVC
          clear hMS hEM
          refine region_round (by kernel_rfl) (by kernel_rfl) (by rintro ⟨_, _, h⟩; exact (h : False)) ?_
          have hmd : Mod (fun k => k = hx + 1 ∨ hx + 4 ≤ k) W W.drew := (Mod.refl _ _).drew
          have HMD := Lib.hid hmd
          have HMN : Hid (Mod nil W W.drew) := Lib.hid ((Mod.refl _ _).drew)
          clear hmd
          refine wpAny_of_held (S := (fun w' => w'.cell? ⟨hx, 0, none⟩ = some (.int .i64 nn))) _ _ _ _ ?_
          have hHeld := HS.out _ HMD.out
          refine wpAnyH_take (i := 1) (v := ?_) rfl (by kernel_rfl) (by kernel_rfl) (by kernel_rfl) (fun _ _ _ h => h) (Or.inl ⟨by kernel_rfl, ?_⟩) (by assumption) ?_
          rotate_left
          · intro w hSw; (try dsimp only at hSw); (first | (go_simp; done) | (go_simp; with_reducible rfl))
          (try simp only [Act.put, List.getElem_toArray, List.getElem_cons_succ, List.getElem_cons_zero, List.setIfInBounds_toArray, List.set_cons_succ, List.set_cons_zero])
          refine wpAnyH_take (i := 2) (v := ?_) rfl (by kernel_rfl) (by kernel_rfl) (by kernel_rfl) (fun _ _ _ h => h) (Or.inl ⟨by kernel_rfl, ?_⟩) (by assumption) ?_
          rotate_left
          · intro w hSw; (try dsimp only at hSw); (first | (go_simp; done) | (go_simp; with_reducible rfl))
          (try simp only [Act.put, List.getElem_toArray, List.getElem_cons_succ, List.getElem_cons_zero, List.setIfInBounds_toArray, List.set_cons_succ, List.set_cons_zero])
          refine wpAnyH_ready (rs := [0, 3]) (by kernel_rfl) (by simp) ?_
          refine AllReadyH.cons (i := 0) rfl (fun K hK => ?_) ?_
          · (try dsimp (config := { proj := false }) only [List.getElem_toArray, List.getElem_cons_succ, List.getElem_cons_zero])
            have cld := cell_of (HMN.out.keep HBLN.out) 0
            simp only [List.getElem?_toArray, List.getElem?_cons_zero] at cld
            have cld2 : (W).cell? ⟨hx + 1, 0, none⟩ = some (.slice pv N cv) := cld
            go_simp
            refine hK.out _ _ (HS.out _ HMN.out.ofNil) (fun hHeld => ?_)
            clear hK K
            (try simp only [Act.put, List.setIfInBounds_toArray, List.set_cons_zero, List.set_cons_succ])
            (try simp only [List.set_cons_succ, List.set_cons_zero])
            clear cld cld2
            refine wpAnyH_ready (rs := [3]) (by kernel_rfl) (by simp) ?_
            refine AllReadyH.cons (i := 3) rfl (fun K hK => ?_) AllReadyH.nil
            (try dsimp (config := { proj := false }) only [List.getElem_toArray, List.getElem_cons_succ, List.getElem_cons_zero])
            go_simp
            refine (HEVC.out _ HMN.out).mono ?_
            rintro e wB ⟨ev, rfl, hev, hmB⟩
            have HMB := Lib.hid (HMN.out.thenNil hmB)
            have HEV : Hid (EvIs (fun k => W.heap.size ≤ k) wB ev EM) := Lib.hid hev
            clear hmB hev
            obtain ⟨k1, k2, k3, k4, px, nx, cx, py, ny, cy, hvals⟩ : ∃ k1 k2 k3 k4 px nx cx py ny cy, ev.vals = [.int .i64 k1, .int .i64 k2, .int .i64 k3, .int .i64 k4, .slice px nx cx, .slice py ny cy, .int .i64 0, .slice none 0 0, .slice none 0 0, .string ⟨#[]⟩, .int .i64 0, .int .i64 0, .int .i64 0, .slice none 0 0, .string ⟨#[]⟩] := by
              obtain ⟨q1, q2, q3, q4, qx, qy⟩ := ev
              obtain ⟨_, _, _, _, ⟨px, cx, h1, _⟩, ⟨py, cy, h2, _⟩⟩ := HEV.out
              simp only at h1 h2
              subst h1 h2
              exact ⟨_, _, _, _, _, _, _, _, _, _, rfl⟩
            rw [hvals]
            have HVALS := Lib.hid hvals
            clear hvals
            have HMC : Hid (Mod nil wB (wB.alloc (.cells #[.int .i64 k1, .int .i64 k2, .int .i64 k3, .int .i64 k4, .slice px nx cx, .slice py ny cy, .int .i64 0, .slice none 0 0, .slice none 0 0, .string ⟨#[]⟩, .int .i64 0, .int .i64 0, .int .i64 0, .slice none 0 0, .string ⟨#[]⟩] 32))) := Lib.hid ((Mod.refl _ _).alloc _)
            have HMWC : Hid (Mod nil W (wB.alloc (.cells #[.int .i64 k1, .int .i64 k2, .int .i64 k3, .int .i64 k4, .slice px nx cx, .slice py ny cy, .int .i64 0, .slice none 0 0, .slice none 0 0, .string ⟨#[]⟩, .int .i64 0, .int .i64 0, .int .i64 0, .slice none 0 0, .string ⟨#[]⟩] 32))) := Lib.hid (HMB.out.thenNil HMC.out)
            have HC1 := Lib.hid (cells_at wB 32 [.int .i64 k1, .int .i64 k2, .int .i64 k3, .int .i64 k4, .slice px nx cx, .slice py ny cy, .int .i64 0, .slice none 0 0, .slice none 0 0, .string ⟨#[]⟩, .int .i64 0, .int .i64 0, .int .i64 0, .slice none 0 0, .string ⟨#[]⟩] 1 1 _ rfl)
            go_wp2_with fail
            refine hK.out _ _ (HS.out _ HMB.out.ofNil) (fun hHeld => ?_)
            clear hK K
            (try simp only [Act.put, List.setIfInBounds_toArray, List.set_cons_zero, List.set_cons_succ])
            (try simp only [List.set_cons_succ, List.set_cons_zero])
            refine wpAnyH_ready (rs := [4]) (by kernel_rfl) (by simp) ?_
            refine AllReadyH.cons (i := 4) rfl (fun K hK => ?_) AllReadyH.nil
            (try dsimp (config := { proj := false }) only [List.getElem_toArray, List.getElem_cons_succ, List.getElem_cons_zero])
            go_simp
            refine hK.out _ _ (HS.out _ HMWC.out.ofNil) (fun hHeld => ?_)
            clear hK K
            (try simp only [Act.put, List.setIfInBounds_toArray, List.set_cons_zero, List.set_cons_succ])
            (try simp only [List.set_cons_succ, List.set_cons_zero])
            refine wpAnyH_ready (rs := [5]) (by kernel_rfl) (by simp) ?_
            refine AllReadyH.cons (i := 5) rfl (fun K hK => ?_) AllReadyH.nil
            (try dsimp (config := { proj := false }) only [List.getElem_toArray, List.getElem_cons_succ, List.getElem_cons_zero])
            obtain ⟨i0, hi0, hz0, hz1, hz2⟩ := info_parts info_event
            refine step_append_vec (S := fun k => (Value.slice pv N cv).ownBlock = some k) rfl (.tmp 21) (.tmp 25) 24 rfl 32 i0 (.agg #[.int .i64 0, .int .i64 0, .int .i64 0, .int .i64 0, .slice none 0 0, .slice none 0 0, .int .i64 0, .slice none 0 0, .slice none 0 0, .string ⟨#[]⟩, .int .i64 0, .int .i64 0, .int .i64 0, .slice none 0 0, .string ⟨#[]⟩]) 15 216 Try.underlying24 hi0 hz0 hz1 hz2 rfl (by omega) (.slice pv N cv) N (evs es) rfl (HVN.out.1.modNil HMWC.out).own _ 1 [.int .i64 k1, .int .i64 k2, .int .i64 k3, .int .i64 k4, .slice px nx cx, .slice py ny cy, .int .i64 0, .slice none 0 0, .slice none 0 0, .string ⟨#[]⟩, .int .i64 0, .int .i64 0, .int .i64 0, .slice none 0 0, .string ⟨#[]⟩] rfl HC1.out rfl (by rw [← HVALS.out]; exact one_vals ev HEV.out) (by unfold maxLen; omega) (by omega) ?_
            intro v7 w7 hv7 hm7
            obtain ⟨p7, q7, rfl⟩ := hv7.form
            have HV7 : Hid (Evd (fun k => hx + 4 ≤ k) w7 (.slice p7 (N + 1) q7) (N + 1) (es ++ [ev]) (MS ++ [EM])) := Lib.hid (evd_snoc HVN.out HMB.out HEV.out HMC.out (by rw [HVALS.out]; exact hv7) hm7 (fun k hk => Nat.le_trans HSZ.out hk))
            have HM7 : Hid (Mod (fun k => k = hx + 1 ∨ hx + 4 ≤ k) W w7) := Lib.hid ((HMWC.out.ofNil).trans hm7 (fun k _ hk => .inr (HVN.out.1.2 k hk)))
            have HK7 : Hid (KeepsOthers W w7) := Lib.hid ((keepsOthers_of HMWC.out (fun k o hk => hk.elim)).trans ((HVN.out.1.modNil HMWC.out).others hm7))
            have HB7 := Lib.hid ((hm7.block (hx + 1) (heap_lt (HMWC.out.keep HBLN.out)) (fun hk => by have := HVN.out.1.2 _ hk; omega)).trans (HMWC.out.keep HBLN.out))
            clear hv7 hm7 hi0 hz0 hz1 hz2
            refine hK.out _ _ (HS.out _ HM7.out) (fun hHeld => ?_)
            clear hK K
            (try simp only [Act.put, List.setIfInBounds_toArray, List.set_cons_zero, List.set_cons_succ])
            (try simp only [List.set_cons_succ, List.set_cons_zero])
            refine wpAnyH_ready (rs := [6]) (by kernel_rfl) (by simp) ?_
            refine AllReadyH.cons (i := 6) rfl (fun K hK => ?_) AllReadyH.nil
            (try dsimp (config := { proj := false }) only [List.getElem_toArray, List.getElem_cons_succ, List.getElem_cons_zero])
            have cl7 := cell_of HB7.out 0
            have fl7 := free_of HB7.out 0
            have HB8 := Lib.hid (heap_setCell_same (off := 0) HB7.out (.slice p7 (N + 1) q7))
            have HM8 : Hid (Mod (fun k => k = hx + 1 ∨ hx + 4 ≤ k) W (w7.setCell ⟨hx + 1, 0, none⟩ (.slice p7 (N + 1) q7))) := Lib.hid (HM7.out.setCell _ _ (fun _ => .inl rfl))
            have HK8 := Lib.hid (HK7.out.trans (KeepsOthers.setCell w7 ⟨hx + 1, 0, none⟩ (.slice p7 (N + 1) q7)))
            have HV8 := Lib.hid (HV7.out.mod (T := fun k => k = hx + 1) ((Mod.refl _ w7).setCell ⟨hx + 1, 0, none⟩ (.slice p7 (N + 1) q7) (fun _ => rfl)) (fun k _ h1 h2 => by omega))
            simp only [List.getElem?_toArray, List.getElem?_cons_zero] at cl7
            go_simp
            refine hK.out _ _ (HS.out _ HM8.out) (fun hHeld => ?_)
            clear hK K
            (try simp only [Act.put, List.setIfInBounds_toArray, List.set_cons_zero, List.set_cons_succ])
            (try simp only [List.set_cons_succ, List.set_cons_zero])
            generalize World.setCell w7 _ _ = w8 at *
            refine wpAnyH_done (by kernel_rfl) ?_ _
            gi_wp2
            have hend := HEND.out w8 p7 q7 ev HK8.out HM8.out HB8.out HV8.out
            exact ⟨hend.1, HM8.out, hend.2.1, hend.2.2.1, hend.2.2.2.1, hend.2.2.2.2⟩
          refine AllReadyH.cons (i := 3) rfl (fun K hK => ?_) AllReadyH.nil
          (try dsimp (config := { proj := false }) only [List.getElem_toArray, List.getElem_cons_succ, List.getElem_cons_zero])
          go_simp
          refine (HEVC.out _ HMN.out).mono ?_
          rintro e wB ⟨ev, rfl, hev, hmB⟩
          have HMB := Lib.hid (HMN.out.thenNil hmB)
          have HEV : Hid (EvIs (fun k => W.heap.size ≤ k) wB ev EM) := Lib.hid hev
          clear hmB hev
          obtain ⟨k1, k2, k3, k4, px, nx, cx, py, ny, cy, hvals⟩ : ∃ k1 k2 k3 k4 px nx cx py ny cy, ev.vals = [.int .i64 k1, .int .i64 k2, .int .i64 k3, .int .i64 k4, .slice px nx cx, .slice py ny cy, .int .i64 0, .slice none 0 0, .slice none 0 0, .string ⟨#[]⟩, .int .i64 0, .int .i64 0, .int .i64 0, .slice none 0 0, .string ⟨#[]⟩] := by
            obtain ⟨q1, q2, q3, q4, qx, qy⟩ := ev
            obtain ⟨_, _, _, _, ⟨px, cx, h1, _⟩, ⟨py, cy, h2, _⟩⟩ := HEV.out
            simp only at h1 h2
            subst h1 h2
            exact ⟨_, _, _, _, _, _, _, _, _, _, rfl⟩
          rw [hvals]
          have HVALS := Lib.hid hvals
          clear hvals
          have HMC : Hid (Mod nil wB (wB.alloc (.cells #[.int .i64 k1, .int .i64 k2, .int .i64 k3, .int .i64 k4, .slice px nx cx, .slice py ny cy, .int .i64 0, .slice none 0 0, .slice none 0 0, .string ⟨#[]⟩, .int .i64 0, .int .i64 0, .int .i64 0, .slice none 0 0, .string ⟨#[]⟩] 32))) := Lib.hid ((Mod.refl _ _).alloc _)
          have HMWC : Hid (Mod nil W (wB.alloc (.cells #[.int .i64 k1, .int .i64 k2, .int .i64 k3, .int .i64 k4, .slice px nx cx, .slice py ny cy, .int .i64 0, .slice none 0 0, .slice none 0 0, .string ⟨#[]⟩, .int .i64 0, .int .i64 0, .int .i64 0, .slice none 0 0, .string ⟨#[]⟩] 32))) := Lib.hid (HMB.out.thenNil HMC.out)
          have HC1 := Lib.hid (cells_at wB 32 [.int .i64 k1, .int .i64 k2, .int .i64 k3, .int .i64 k4, .slice px nx cx, .slice py ny cy, .int .i64 0, .slice none 0 0, .slice none 0 0, .string ⟨#[]⟩, .int .i64 0, .int .i64 0, .int .i64 0, .slice none 0 0, .string ⟨#[]⟩] 1 1 _ rfl)
          go_wp2_with fail
          refine hK.out _ _ (HS.out _ HMB.out.ofNil) (fun hHeld => ?_)
          clear hK K
          (try simp only [Act.put, List.setIfInBounds_toArray, List.set_cons_zero, List.set_cons_succ])
          (try simp only [List.set_cons_succ, List.set_cons_zero])
          refine wpAnyH_ready (rs := [0, 4]) (by kernel_rfl) (by simp) ?_
          refine AllReadyH.cons (i := 0) rfl (fun K hK => ?_) ?_
          · (try dsimp (config := { proj := false }) only [List.getElem_toArray, List.getElem_cons_succ, List.getElem_cons_zero])
            have cld := cell_of (HMB.out.keep HBLN.out) 0
            simp only [List.getElem?_toArray, List.getElem?_cons_zero] at cld
            go_simp
            refine hK.out _ _ (HS.out _ HMB.out.ofNil) (fun hHeld => ?_)
            clear hK K
            (try simp only [Act.put, List.setIfInBounds_toArray, List.set_cons_zero, List.set_cons_succ])
            (try simp only [List.set_cons_succ, List.set_cons_zero])
            clear cld
            refine wpAnyH_ready (rs := [4]) (by kernel_rfl) (by simp) ?_
            refine AllReadyH.cons (i := 4) rfl (fun K hK => ?_) AllReadyH.nil
            (try dsimp (config := { proj := false }) only [List.getElem_toArray, List.getElem_cons_succ, List.getElem_cons_zero])
            go_simp
            refine hK.out _ _ (HS.out _ HMWC.out.ofNil) (fun hHeld => ?_)
            clear hK K
            (try simp only [Act.put, List.setIfInBounds_toArray, List.set_cons_zero, List.set_cons_succ])
            (try simp only [List.set_cons_succ, List.set_cons_zero])
            refine wpAnyH_ready (rs := [5]) (by kernel_rfl) (by simp) ?_
            refine AllReadyH.cons (i := 5) rfl (fun K hK => ?_) AllReadyH.nil
            (try dsimp (config := { proj := false }) only [List.getElem_toArray, List.getElem_cons_succ, List.getElem_cons_zero])
            obtain ⟨i0, hi0, hz0, hz1, hz2⟩ := info_parts info_event
            refine step_append_vec (S := fun k => (Value.slice pv N cv).ownBlock = some k) rfl (.tmp 21) (.tmp 25) 24 rfl 32 i0 (.agg #[.int .i64 0, .int .i64 0, .int .i64 0, .int .i64 0, .slice none 0 0, .slice none 0 0, .int .i64 0, .slice none 0 0, .slice none 0 0, .string ⟨#[]⟩, .int .i64 0, .int .i64 0, .int .i64 0, .slice none 0 0, .string ⟨#[]⟩]) 15 216 Try.underlying24 hi0 hz0 hz1 hz2 rfl (by omega) (.slice pv N cv) N (evs es) rfl (HVN.out.1.modNil HMWC.out).own _ 1 [.int .i64 k1, .int .i64 k2, .int .i64 k3, .int .i64 k4, .slice px nx cx, .slice py ny cy, .int .i64 0, .slice none 0 0, .slice none 0 0, .string ⟨#[]⟩, .int .i64 0, .int .i64 0, .int .i64 0, .slice none 0 0, .string ⟨#[]⟩] rfl HC1.out rfl (by rw [← HVALS.out]; exact one_vals ev HEV.out) (by unfold maxLen; omega) (by omega) ?_
            intro v7 w7 hv7 hm7
            obtain ⟨p7, q7, rfl⟩ := hv7.form
            have HV7 : Hid (Evd (fun k => hx + 4 ≤ k) w7 (.slice p7 (N + 1) q7) (N + 1) (es ++ [ev]) (MS ++ [EM])) := Lib.hid (evd_snoc HVN.out HMB.out HEV.out HMC.out (by rw [HVALS.out]; exact hv7) hm7 (fun k hk => Nat.le_trans HSZ.out hk))
            have HM7 : Hid (Mod (fun k => k = hx + 1 ∨ hx + 4 ≤ k) W w7) := Lib.hid ((HMWC.out.ofNil).trans hm7 (fun k _ hk => .inr (HVN.out.1.2 k hk)))
            have HK7 : Hid (KeepsOthers W w7) := Lib.hid ((keepsOthers_of HMWC.out (fun k o hk => hk.elim)).trans ((HVN.out.1.modNil HMWC.out).others hm7))
            have HB7 := Lib.hid ((hm7.block (hx + 1) (heap_lt (HMWC.out.keep HBLN.out)) (fun hk => by have := HVN.out.1.2 _ hk; omega)).trans (HMWC.out.keep HBLN.out))
            clear hv7 hm7 hi0 hz0 hz1 hz2
            refine hK.out _ _ (HS.out _ HM7.out) (fun hHeld => ?_)
            clear hK K
            (try simp only [Act.put, List.setIfInBounds_toArray, List.set_cons_zero, List.set_cons_succ])
            (try simp only [List.set_cons_succ, List.set_cons_zero])
            refine wpAnyH_ready (rs := [6]) (by kernel_rfl) (by simp) ?_
            refine AllReadyH.cons (i := 6) rfl (fun K hK => ?_) AllReadyH.nil
            (try dsimp (config := { proj := false }) only [List.getElem_toArray, List.getElem_cons_succ, List.getElem_cons_zero])
            have cl7 := cell_of HB7.out 0
            have fl7 := free_of HB7.out 0
            have HB8 := Lib.hid (heap_setCell_same (off := 0) HB7.out (.slice p7 (N + 1) q7))
            have HM8 : Hid (Mod (fun k => k = hx + 1 ∨ hx + 4 ≤ k) W (w7.setCell ⟨hx + 1, 0, none⟩ (.slice p7 (N + 1) q7))) := Lib.hid (HM7.out.setCell _ _ (fun _ => .inl rfl))
            have HK8 := Lib.hid (HK7.out.trans (KeepsOthers.setCell w7 ⟨hx + 1, 0, none⟩ (.slice p7 (N + 1) q7)))
            have HV8 := Lib.hid (HV7.out.mod (T := fun k => k = hx + 1) ((Mod.refl _ w7).setCell ⟨hx + 1, 0, none⟩ (.slice p7 (N + 1) q7) (fun _ => rfl)) (fun k _ h1 h2 => by omega))
            simp only [List.getElem?_toArray, List.getElem?_cons_zero] at cl7
            go_simp
            refine hK.out _ _ (HS.out _ HM8.out) (fun hHeld => ?_)
            clear hK K
            (try simp only [Act.put, List.setIfInBounds_toArray, List.set_cons_zero, List.set_cons_succ])
            (try simp only [List.set_cons_succ, List.set_cons_zero])
            generalize World.setCell w7 _ _ = w8 at *
            refine wpAnyH_done (by kernel_rfl) ?_ _
            gi_wp2
            have hend := HEND.out w8 p7 q7 ev HK8.out HM8.out HB8.out HV8.out
            exact ⟨hend.1, HM8.out, hend.2.1, hend.2.2.1, hend.2.2.2.1, hend.2.2.2.2⟩
          refine AllReadyH.cons (i := 4) rfl (fun K hK => ?_) AllReadyH.nil
          (try dsimp (config := { proj := false }) only [List.getElem_toArray, List.getElem_cons_succ, List.getElem_cons_zero])
          go_simp
          refine hK.out _ _ (HS.out _ HMWC.out.ofNil) (fun hHeld => ?_)
          clear hK K
          (try simp only [Act.put, List.setIfInBounds_toArray, List.set_cons_zero, List.set_cons_succ])
          (try simp only [List.set_cons_succ, List.set_cons_zero])
          refine wpAnyH_ready (rs := [0]) (by kernel_rfl) (by simp) ?_
          refine AllReadyH.cons (i := 0) rfl (fun K hK => ?_) AllReadyH.nil
          (try dsimp (config := { proj := false }) only [List.getElem_toArray, List.getElem_cons_succ, List.getElem_cons_zero])
          have cld := cell_of (HMWC.out.keep HBLN.out) 0
          simp only [List.getElem?_toArray, List.getElem?_cons_zero] at cld
          go_simp
          refine hK.out _ _ (HS.out _ HMWC.out.ofNil) (fun hHeld => ?_)
          clear hK K
          (try simp only [Act.put, List.setIfInBounds_toArray, List.set_cons_zero, List.set_cons_succ])
          (try simp only [List.set_cons_succ, List.set_cons_zero])
          clear cld
          refine wpAnyH_ready (rs := [5]) (by kernel_rfl) (by simp) ?_
          refine AllReadyH.cons (i := 5) rfl (fun K hK => ?_) AllReadyH.nil
          (try dsimp (config := { proj := false }) only [List.getElem_toArray, List.getElem_cons_succ, List.getElem_cons_zero])
          obtain ⟨i0, hi0, hz0, hz1, hz2⟩ := info_parts info_event
          refine step_append_vec (S := fun k => (Value.slice pv N cv).ownBlock = some k) rfl (.tmp 21) (.tmp 25) 24 rfl 32 i0 (.agg #[.int .i64 0, .int .i64 0, .int .i64 0, .int .i64 0, .slice none 0 0, .slice none 0 0, .int .i64 0, .slice none 0 0, .slice none 0 0, .string ⟨#[]⟩, .int .i64 0, .int .i64 0, .int .i64 0, .slice none 0 0, .string ⟨#[]⟩]) 15 216 Try.underlying24 hi0 hz0 hz1 hz2 rfl (by omega) (.slice pv N cv) N (evs es) rfl (HVN.out.1.modNil HMWC.out).own _ 1 [.int .i64 k1, .int .i64 k2, .int .i64 k3, .int .i64 k4, .slice px nx cx, .slice py ny cy, .int .i64 0, .slice none 0 0, .slice none 0 0, .string ⟨#[]⟩, .int .i64 0, .int .i64 0, .int .i64 0, .slice none 0 0, .string ⟨#[]⟩] rfl HC1.out rfl (by rw [← HVALS.out]; exact one_vals ev HEV.out) (by unfold maxLen; omega) (by omega) ?_
          intro v7 w7 hv7 hm7
          obtain ⟨p7, q7, rfl⟩ := hv7.form
          have HV7 : Hid (Evd (fun k => hx + 4 ≤ k) w7 (.slice p7 (N + 1) q7) (N + 1) (es ++ [ev]) (MS ++ [EM])) := Lib.hid (evd_snoc HVN.out HMB.out HEV.out HMC.out (by rw [HVALS.out]; exact hv7) hm7 (fun k hk => Nat.le_trans HSZ.out hk))
          have HM7 : Hid (Mod (fun k => k = hx + 1 ∨ hx + 4 ≤ k) W w7) := Lib.hid ((HMWC.out.ofNil).trans hm7 (fun k _ hk => .inr (HVN.out.1.2 k hk)))
          have HK7 : Hid (KeepsOthers W w7) := Lib.hid ((keepsOthers_of HMWC.out (fun k o hk => hk.elim)).trans ((HVN.out.1.modNil HMWC.out).others hm7))
          have HB7 := Lib.hid ((hm7.block (hx + 1) (heap_lt (HMWC.out.keep HBLN.out)) (fun hk => by have := HVN.out.1.2 _ hk; omega)).trans (HMWC.out.keep HBLN.out))
          clear hv7 hm7 hi0 hz0 hz1 hz2
          refine hK.out _ _ (HS.out _ HM7.out) (fun hHeld => ?_)
          clear hK K
          (try simp only [Act.put, List.setIfInBounds_toArray, List.set_cons_zero, List.set_cons_succ])
          (try simp only [List.set_cons_succ, List.set_cons_zero])
          refine wpAnyH_ready (rs := [6]) (by kernel_rfl) (by simp) ?_
          refine AllReadyH.cons (i := 6) rfl (fun K hK => ?_) AllReadyH.nil
          (try dsimp (config := { proj := false }) only [List.getElem_toArray, List.getElem_cons_succ, List.getElem_cons_zero])
          have cl7 := cell_of HB7.out 0
          have fl7 := free_of HB7.out 0
          have HB8 := Lib.hid (heap_setCell_same (off := 0) HB7.out (.slice p7 (N + 1) q7))
          have HM8 : Hid (Mod (fun k => k = hx + 1 ∨ hx + 4 ≤ k) W (w7.setCell ⟨hx + 1, 0, none⟩ (.slice p7 (N + 1) q7))) := Lib.hid (HM7.out.setCell _ _ (fun _ => .inl rfl))
          have HK8 := Lib.hid (HK7.out.trans (KeepsOthers.setCell w7 ⟨hx + 1, 0, none⟩ (.slice p7 (N + 1) q7)))
          have HV8 := Lib.hid (HV7.out.mod (T := fun k => k = hx + 1) ((Mod.refl _ w7).setCell ⟨hx + 1, 0, none⟩ (.slice p7 (N + 1) q7) (fun _ => rfl)) (fun k _ h1 h2 => by omega))
          simp only [List.getElem?_toArray, List.getElem?_cons_zero] at cl7
          go_simp
          refine hK.out _ _ (HS.out _ HM8.out) (fun hHeld => ?_)
          clear hK K
          (try simp only [Act.put, List.setIfInBounds_toArray, List.set_cons_zero, List.set_cons_succ])
          (try simp only [List.set_cons_succ, List.set_cons_zero])
          generalize World.setCell w7 _ _ = w8 at *
          refine wpAnyH_done (by kernel_rfl) ?_ _
          gi_wp2
          have hend := HEND.out w8 p7 q7 ev HK8.out HM8.out HB8.out HV8.out
          exact ⟨hend.1, HM8.out, hend.2.1, hend.2.2.1, hend.2.2.2.1, hend.2.2.2.2⟩
      · obtain ⟨E, hE⟩ : ∃ E, L - i = E := ⟨_, rfl⟩
        have hE5 : E < 4 := by omega
        have hch : chunkAt g o L 4 x.val = .slice (some ⟨g, o + i, none⟩) E E := by unfold chunkAt; rw [HI.out, show min 4 (L - i) = E by omega]
        clear hE
        gi_wp2
        have h := HFIN.out W rfl
        have h' := h.2 (.inl (by have := HI.out; omega))
        exact ⟨h.1, rfl, h'.2⟩
    case done =>
      rintro D ys W hD hys ⟨h400, hall, ⟨p, c, es, hb, hv⟩, hm⟩ hK
      subst hfr
      obtain ⟨e1, e2⟩ := events_done b nn HLB.out hn ys hys h400 hall
      rw [e1, e2] at hv
      rw [e2] at hb
      obtain ⟨NA, hNA⟩ : ∃ NA, (eventsAll b nn).length = NA := ⟨_, rfl⟩
      have hput : Mod (· = D) W (W.putObj D (.deferred none)) := mod_putObj W D _ rfl
      have hvf : Evd (fun k => w.heap.size ≤ k) (W.putObj D (.deferred none)) (.slice p (eventsAll b nn).length c) (eventsAll b nn).length es (eventsAll b nn) := (hv.modCells hput (fun k o ho hc hk => by rw [hk.1, hK] at ho; cases ho; cases hc)).mono (fun k hk => by have := HZ.out; omega)
      have hmf : Mod nil w (W.putObj D (.deferred none)) := (HM9.out.trans hm (fun k hk h => by have := HZ.out; omega)).trans hput (fun k hk h => by have := HM9.out.size; omega)
      have HF : Hid (Post (.returned (.slice p NA c)) (W.putObj D (.deferred none))) := Lib.hid (HPOST.out _ _ ⟨_, es, by rw [← hNA], hvf, hmf⟩)
      rw [hNA] at hb
      have cl := cell_of hb 0
      simp only [List.getElem?_toArray, List.getElem?_cons_zero] at cl
      have HK := Lib.hid hK
      clear hys h400 hall hb hv hm hK hNA hput hvf hmf e1 e2
      go_wp2_with fail
      refine ⟨by simp, .inl ⟨_, _, rfl, run_takeDeferred HK.out, ?_⟩⟩
      refine ⟨_, results_tmp rfl _ _ _, ?_⟩
      exact HF.out
    case stop =>
      rintro D cc pre W hD ⟨k, hk, hys⟩ ⟨rfl, pre', x, rfl, hd, h400, hall, ⟨p, c, es, hb, hv⟩, hm⟩ hK
      subst hfr
      obtain ⟨e1, e2⟩ := events_stop b nn HLB.out hn pre' x k hys hd h400 hall
      rw [e1, e2] at hv
      rw [e2] at hb
      obtain ⟨NA, hNA⟩ : ∃ NA, (eventsAll b nn).length = NA := ⟨_, rfl⟩
      have hput : Mod (· = D) W (W.putObj D (.deferred none)) := mod_putObj W D _ rfl
      have hvf : Evd (fun k => w.heap.size ≤ k) (W.putObj D (.deferred none)) (.slice p (eventsAll b nn).length c) (eventsAll b nn).length es (eventsAll b nn) := (hv.modCells hput (fun k o ho hc hk => by rw [hk.1, hK] at ho; cases ho; cases hc)).mono (fun k hk => by have := HZ.out; omega)
      have hmf : Mod nil w (W.putObj D (.deferred none)) := (HM9.out.trans hm (fun k hk h => by have := HZ.out; omega)).trans hput (fun k hk h => by have := HM9.out.size; omega)
      have HF : Hid (Post (.returned (.slice p NA c)) (W.putObj D (.deferred none))) := Lib.hid (HPOST.out _ _ ⟨_, es, by rw [← hNA], hvf, hmf⟩)
      rw [hNA] at hb
      have cl := cell_of hb 0
      simp only [List.getElem?_toArray, List.getElem?_cons_zero] at cl
      have HK := Lib.hid hK
      clear hys h400 hall hb hv hm hK hNA hput hvf hmf hd hk e1 e2
      refine wpIn_exit ?_
      go_wp2_with fail
      refine ⟨by simp, .inl ⟨_, _, rfl, run_takeDeferred HK.out, ?_⟩⟩
      refine ⟨_, results_tmp rfl _ _ _, ?_⟩
      exact HF.out
  · have HF : Hid (∀ w', Mod nil w w' → Post (.returned (.slice none 0 0)) w') := Lib.hid (fun w' m => HPOST.out _ _ ⟨_, [], rfl, by unfold eventsAll; rw [if_neg hn]; exact ⟨IsVec.nil _ _ _ _, trivial⟩, m⟩)
    go_upto_region 2 with (fail)
    obtain ⟨hx, hhx⟩ : ∃ hx, w.heap.size = hx := ⟨_, rfl⟩
    generalize hw1 : World.alloc (World.alloc _ _) _ = w1
    have hm1 : Mod nil w w1 := by rw [← hw1]; exact ((Mod.refl _ _).alloc _).alloc _
    have hbn : w1.heap[hx]? = some (.cells #[.int .i64 n] 3 (0, 0)) := by rw [← hw1]; exact heap_alloc_old (by rw [← hhx]; exact heap_alloc_new _ _)
    have cn := cell_of hbn 0
    simp only [List.getElem?_toArray, List.getElem?_cons_zero] at cn
    rw [hhx]
    have HM1 := Lib.hid hm1
    clear hw1 hm1 hbn hhx
    go_wp2_with fail
    refine (taleMay n w1).mono ?_
    rw [decide_eq_false hn]
    rintro e w2 ⟨rfl, rfl⟩
    clear cn
    go_wp2_with fail
    refine ⟨_, results_tmp rfl _ _ _, ?_⟩
    exact HF.out _ HM1.out
end Go.Proofs.Ytlkhihdgaimboaa

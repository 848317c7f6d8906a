/- Package tale: Trades. -/
import Derived.Test.YtlkhihdgaimboaaTaleA
import Derived.Test.YtlkhihdgaimboaaStep
import Derived.Test.YtlkhihdgaimboaaTailB
namespace Go.Proofs.Ytlkhihdgaimboaa
open Go.RowKit
attribute [local go_sem] Oper.semAt_some

structure T7 where
  id : Int
  buyer : Int
  seller : Int
  cash : Int
  price : Int
  asset : Int
  qty : Int
  deriving DecidableEq
def T7.vals (t : T7) : List Value := [.int .i64 t.id, .int .i64 t.buyer, .int .i64 t.seller, .int .i64 t.cash, .int .i64 t.price, .int .i64 t.asset, .int .i64 t.qty]
def trades (l : List T7) : List Value := l.flatMap T7.vals
theorem trades_length (l : List T7) : (trades l).length = l.length * 7 := by
  induction l with
  | nil => rfl
  | cons x l ih => simp only [trades, List.flatMap_cons, List.length_append, List.length_cons] at ih ⊢; rw [ih]; simp [T7.vals]; omega
theorem cells_at (w : World) (E : TypeId) (xs : List Value) (n c g : Nat) (hg : w.heap.size = g) : IsCells (· = g) (w.alloc (.cells xs.toArray E)) (.slice (some ⟨g, 0, none⟩) n c) n xs := by
  subst hg
  refine ⟨_, c, rfl, fun i hi => ⟨w.heap.size, 0, rfl, rfl, by simp, ?_⟩⟩
  rw [Nat.zero_add, cell_of (heap_alloc_new w (.cells xs.toArray E))]
  simp [hi]
/-- the trade of five bytes, its number id, among so many parties -/
def tradeOf (c : List UInt8) (n id : Nat) : T7 :=
  ⟨id, ((c.getD 0 0).toNat % n : Nat), (((c.getD 0 0).toNat % n + 1 + (c.getD 1 0).toNat % (n - 1)) % n : Nat), ((c.getD 2 0).toNat % 2 : Nat), (1 + (c.getD 3 0).toNat % 50 : Nat), ((c.getD 2 0).toNat / 2 % 2 : Nat), (1 + (c.getD 4 0).toNat % 50 : Nat)⟩
/-- the trades of the first so many fives -/
def tradesTo (b : List UInt8) (n : Nat) : Nat → List T7
  | 0 => []
  | k + 1 => tradesTo b n k ++ [tradeOf ((b.drop (5 * k)).take 5) n k]
theorem tradesTo_length (b : List UInt8) (n k : Nat) : (tradesTo b n k).length = k := by
  induction k with
  | zero => rfl
  | succ k ih => simp [tradesTo, ih]
/-- as the loop goes: over whatever chunks -/
def tradesF {N : Nat} (b : List UInt8) (n : Nat) (pre : List (Fin N)) : List T7 := pre.foldl (fun l x => l ++ [tradeOf ((b.drop (5 * x.val)).take 5) n l.length]) []
theorem tradesF_snoc {N : Nat} (b : List UInt8) (n : Nat) (pre : List (Fin N)) (x : Fin N) : tradesF b n (pre ++ [x]) = tradesF b n pre ++ [tradeOf ((b.drop (5 * x.val)).take 5) n (tradesF b n pre).length] := by simp [tradesF]
theorem tradesF_range {N : Nat} (b : List UInt8) (n k : Nat) (pre : List (Fin N)) (h : pre.map (·.val) = List.range k) : tradesF b n pre = tradesTo b n k := by
  have h1 : ∀ (pre : List (Fin N)), tradesF b n pre = (pre.map (·.val)).foldl (fun l x => l ++ [tradeOf ((b.drop (5 * x)).take 5) n l.length]) [] := by intro pre; simp [tradesF, List.foldl_map]
  rw [h1, h]
  induction k generalizing pre with
  | zero => rfl
  | succ k ih =>
    rw [List.range_succ, List.foldl_append]
    have h2 : (List.range k).foldl (fun l x => l ++ [tradeOf ((b.drop (5 * x)).take 5) n l.length]) [] = tradesTo b n k := by
      clear ih h
      induction k with
      | zero => rfl
      | succ k ih => rw [List.range_succ, List.foldl_append, ih]; simp [tradesTo, tradesTo_length]
    rw [h2]
    simp [tradesTo, tradesTo_length]
/-- what Trades tells -/
def tradesAll (b : List UInt8) (n : Int) : List T7 := if 2 ≤ n ∧ n ≤ 16 then tradesTo b n.toNat (min (b.length / 5) 200) else []
theorem IsVec.modCells {S T : Nat → Prop} {w w' : World} {E : TypeId} {sz n : Nat} {v : Value} {xs : List Value} (h : IsVec S w E sz v n xs) (m : Mod T w w') (hT : ∀ k o, w.heap[k]? = some o → o.isCells = true → ¬ (T k ∧ S k)) : IsVec S w' E sz v n xs := by
  obtain ⟨⟨hl, h1⟩, h2⟩ := h
  refine ⟨⟨hl, ?_⟩, h2⟩
  rcases h1 with h1 | ⟨g, cap, cur, rfl, hg, hh, r⟩
  · exact .inl h1
  · exact .inr ⟨g, cap, cur, rfl, hg, (m.block g (heap_lt hh) (fun ht => hT g _ hh rfl ⟨ht, h2 g rfl⟩)).trans hh, r⟩
theorem IsVec.own {S : Nat → Prop} {w : World} {E : TypeId} {sz n : Nat} {v : Value} {xs : List Value} (h : IsVec S w E sz v n xs) : IsVec (fun k => v.ownBlock = some k) w E sz v n xs := ⟨h.1, fun _ h => h⟩
theorem IsVec.others {S : Nat → Prop} {w w' : World} {E : TypeId} {sz n : Nat} {v : Value} {xs : List Value} (h : IsVec S w E sz v n xs) (m : Mod (fun k => v.ownBlock = some k) w w') : KeepsOthers w w' := by
  obtain ⟨⟨hl, h1⟩, h2⟩ := h
  refine keepsOthers_of m (fun k o hk ho => ?_)
  rcases h1 with ⟨rfl, rfl⟩ | ⟨g, cap, cur, rfl, hg, hh, r⟩
  · simp [Value.ownBlock] at hk
  · simp [Value.ownBlock] at hk
    subst hk
    rw [hh] at ho
    cases ho
    rfl
theorem trades_done {L : Nat} (b : List UInt8) (nn : Nat) (hL : b.length = L) (hn : 2 ≤ (nn : Int) ∧ (nn : Int) ≤ 16) (ys : List (Fin (cnt L 5))) (hys : ys.map (·.val) = List.range (cnt L 5)) (h200 : (tradesF b nn ys).length ≤ 200) (hall : ∀ x ∈ ys, 5 * x.val + 5 ≤ L) : tradesF b nn ys = tradesAll b nn := by
  rw [tradesF_range b nn _ ys hys] at h200 ⊢
  rw [tradesTo_length] at h200
  unfold tradesAll
  rw [if_pos hn, hL, Int.toNat_natCast]
  congr 1
  rcases Nat.eq_zero_or_pos (cnt L 5) with h | h
  · have := not_congr (cnt_lt (len := L) (c := 5) (k := 0) (by omega))
    rw [h] at this ⊢
    omega
  · have hlast : cnt L 5 - 1 ∈ ys.map (·.val) := by rw [hys]; exact List.mem_range.2 (by omega)
    obtain ⟨x, hx, hxv⟩ := List.mem_map.1 hlast
    have h1 := hall x hx
    have h2 := (not_congr (cnt_lt (len := L) (c := 5) (k := cnt L 5) (by omega))).1 (by omega)
    omega
theorem trades_stop {L : Nat} (b : List UInt8) (nn : Nat) (hL : b.length = L) (hn : 2 ≤ (nn : Int) ∧ (nn : Int) ≤ 16) (pre : List (Fin (cnt L 5))) (x : Fin (cnt L 5)) (k : Nat) (hys : (pre ++ [x]).map (·.val) = List.range k) (hd : L < 5 * x.val + 5 ∨ (tradesF b nn pre).length = 200) (h200 : (tradesF b nn pre).length ≤ 200) (hall : ∀ x ∈ pre, 5 * x.val + 5 ≤ L) : tradesF b nn pre = tradesAll b nn := by
  rcases k with _ | k
  · simp at hys
  rw [List.range_succ, List.map_append, List.map_cons, List.map_nil] at hys
  obtain ⟨h1, h2⟩ := List.append_inj' hys rfl
  simp only [List.cons.injEq, and_true] at h2
  rw [tradesF_range b nn _ pre h1] at h200 hd ⊢
  rw [tradesTo_length] at h200 hd
  unfold tradesAll
  rw [if_pos hn, hL, Int.toNat_natCast]
  congr 1
  rcases Nat.eq_zero_or_pos k with h | h
  · omega
  · have hlast : k - 1 ∈ pre.map (·.val) := by rw [h1]; exact List.mem_range.2 (by omega)
    obtain ⟨y, hy, hyv⟩ := List.mem_map.1 hlast
    have h3 := hall y hy
    omega
/-- as ownFrom_of, but what turns is no cells -/
theorem ownFrom_cells {β : Type} {B : Nat} {I : β → World → Prop} (h : ∀ s W W', I s W → Mod (fun k => B ≤ k ∧ ∃ o, W.heap[k]? = some o ∧ o.isCells = false) W W' → I s W') : OwnFrom B I := fun s W W' _ hs hg hr =>
  h s W W' hs ⟨hg.os, hg.tape, hg.output, hg.size, fun k hk hn => hg.block k hk (fun e => hn (hr k e.symm))⟩
theorem info_trade : (Try.prog.info? 39).map (fun i => (i.zero, i.size, i.bytes)) = some (some (.agg #[.int .i64 0, .int .i64 0, .int .i64 0, .int .i64 0, .int .i64 0, .int .i64 0, .int .i64 0]), 7, 56) := by kernel_rfl
theorem taleMay (n : Int) (w : World) : Calls Try.prog 20 #[.int .i64 n] w fun e w' => e = .returned (.bool (decide (2 ≤ n ∧ n ≤ 16))) ∧ w = w' := by
  rcases (show n < 2 ∨ (2 ≤ n ∧ n ≤ 16) ∨ (2 ≤ n ∧ ¬ n ≤ 16) by omega) with h | ⟨h, h'⟩ | ⟨h, h'⟩
  all_goals
    go_enter Try.func20, Try.ntmps20
    go_wp2
    go_ret
    exact ⟨by simp; try omega, rfl⟩
set_option maxRecDepth 100000 in
set_option maxHeartbeats 2000000 in
theorem taleTrades (T : Nat → Prop) (p0 : Option Addr) (len cap : Nat) (b : List UInt8) (n : Int) (w : World) (hrow : IsRow T w (.slice p0 len cap) (bys b)) (hcap : len ≤ cap) (hl : b.length ≤ 1099511627776) :
    Calls Try.prog 9 #[.slice p0 len cap, .int .i64 n] w fun e w' => ∃ v', e = .returned v' ∧ IsVec (fun k => w.heap.size ≤ k) w' 39 7 v' (tradesAll b n).length (trades (tradesAll b n)) ∧ Mod nil w w' := by
  refine (?_ : ∀ Post : Ending → World → Prop, Hid (∀ e w', (∃ v', e = .returned v' ∧ IsVec (fun k => w.heap.size ≤ k) w' 39 7 v' (tradesAll b n).length (trades (tradesAll b n)) ∧ Mod nil w w') → Post e w') → Calls Try.prog 9 #[.slice p0 len cap, .int .i64 n] w Post) _ (Lib.hid (fun _ _ h => h))
  intro Post HPOST
  have HROW := Lib.hid hrow
  obtain rfl : len = b.length := by
    obtain ⟨_, _, h, _⟩ := hrow
    simp only [Value.slice.injEq, bys_length] at h
    exact h.2.1
  obtain ⟨L, hL⟩ : ∃ L, b.length = L := ⟨_, rfl⟩
  rw [hL] at HROW hl hcap ⊢
  have HLB := Lib.hid hL
  clear hrow hL
  refine calls_over Try.func9 rfl ?_
  simp only [Try.ntmps9, List.size_toArray, List.length_cons, List.length_nil, Nat.reduceAdd, Nat.reduceSub, Array.replicate_succ, Array.replicate_zero, List.push_toArray, List.append_toArray, List.nil_append, List.cons_append]
  by_cases hn : 2 ≤ n ∧ n ≤ 16
  · go_upto_region 2 with (fail)
    obtain ⟨hx, hhx⟩ : ∃ hx, w.heap.size = hx := ⟨_, rfl⟩
    obtain ⟨nn, rfl⟩ : ∃ nn : Nat, n = nn := ⟨n.toNat, by omega⟩
    generalize hw1 : World.alloc (World.alloc _ _) _ = w1
    have hs1 : w1.heap.size = hx + 2 := by rw [← hw1]; simp [hhx]
    have hm1 : Mod nil w w1 := by rw [← hw1]; exact ((Mod.refl _ _).alloc _).alloc _
    have hbn : w1.heap[hx]? = some (.cells #[.int .i64 nn] 3 (0, 0)) := by rw [← hw1]; exact heap_alloc_old (by rw [← hhx]; exact heap_alloc_new _ _)
    have hbl : w1.heap[hx + 1]? = some (.cells #[.slice none 0 0] 36 (0, 0)) := by
      rw [← hw1]
      have := heap_alloc_new (w.alloc (.cells #[.int .i64 nn] 3)) (.cells #[.slice none 0 0] 36)
      rw [World.size_alloc, hhx] at this
      exact this
    have HM1 := Lib.hid hm1
    have HBN := Lib.hid hbn
    have HBL := Lib.hid hbl
    have HZ : Hid (w.heap.size = hx) := Lib.hid hhx
    have cn := cell_of hbn 0
    simp only [List.getElem?_toArray, List.getElem?_cons_zero] at cn
    rw [hhx]
    clear hw1 hm1 hbn hbl hhx
    go_wp2_with fail
    refine (taleMay nn w1).mono ?_
    rw [decide_eq_true hn]
    rintro e w2 ⟨rfl, rfl⟩
    clear cn
    go_wp2_with fail
    refine (chunk_call p0 L cap 5 (by omega) w1).mono ?_
    rw [hs1]
    rintro e w9 ⟨rfl, hw9⟩
    have hs9 : w9.heap.size = hx + 4 := by rw [hw9]; simp [hs1]
    have hm9 : Mod nil w1 w9 := by rw [hw9]; exact ((Mod.refl _ _).alloc _).alloc _
    have hBs : w9.cell? ⟨hx + 2, 0, none⟩ = some (.slice p0 L cap) := by
      have h : (w1.alloc (.cells #[.slice p0 L cap] 22)).heap[hx + 2]? = some (.cells #[.slice p0 L cap] 22 (0, 0)) := by rw [← hs1]; exact heap_alloc_new _ _
      rw [hw9]
      exact cell_of (heap_alloc_old h) 0
    have hBn : w9.cell? ⟨hx + 2 + 1, 0, none⟩ = some (.int .i64 (5 : Nat)) := by
      rw [hw9]
      exact cell_of (show ((w1.alloc (.cells #[.slice p0 L cap] 22)).alloc (.cells #[.int .i64 (5 : Nat)] 3)).heap[hx + 2 + 1]? = _ from by
        have := heap_alloc_new (w1.alloc (.cells #[.slice p0 L cap] 22)) (.cells #[.int .i64 (5 : Nat)] 3)
        rw [World.size_alloc, hs1] at this
        exact this) 0
    clear hw9
    have HM9 := Lib.hid (HM1.out.thenNil hm9)
    have HBN9 := Lib.hid (hm9.keep HBN.out)
    have HBL9 := Lib.hid (hm9.keep HBL.out)
    obtain ⟨g, o, hp0⟩ : ∃ g o, 0 < L → p0 = some ⟨g, o, none⟩ ∧ g < hx := by
      rcases Nat.eq_zero_or_pos L with h | h
      · exact ⟨0, 0, fun h' => by omega⟩
      · obtain ⟨p', c', hp, hc⟩ := HROW.out
        obtain ⟨b', o', h1, _, h3, _⟩ := hc 0 (by rw [bys_length, HLB.out]; exact h)
        simp only [Value.slice.injEq] at hp
        obtain ⟨rfl, -, -⟩ := hp
        exact ⟨b', o', fun _ => ⟨h1, by have := HZ.out; omega⟩⟩
    have HRA : Hid (∀ i, i < L → w9.cell? ⟨g, o + i, none⟩ = some (.int .u8 (b.getD i 0).toNat)) := Lib.hid (fun i hi => by
      obtain ⟨p', c', hp, hc⟩ := HROW.out
      obtain ⟨b', o', h1, _, h3, h4⟩ := hc i (by rw [bys_length, HLB.out]; exact hi)
      simp only [Value.slice.injEq] at hp
      obtain ⟨rfl, -, -⟩ := hp
      rw [(hp0 (by omega)).1] at h1
      simp only [Option.some.injEq, Addr.mk.injEq, and_true] at h1
      obtain ⟨rfl, rfl⟩ := h1
      rw [bys_getD _ _ (by rw [HLB.out]; exact hi)] at h4
      exact cell_kept h4 HM9.out h3 (not_nil _))
    have HGX := Lib.hid (fun (h : 0 < L) => (hp0 h).2)
    have hcs := chunk_stops 8 (by omega) (hx + 2) (hx + 2 + 1) g o L cap 5 p0 (fun h => (hp0 h).1) (by omega) (by omega) hcap hl (Mod (fun k => k = hx + 1 ∨ hx + 4 ≤ k)) (fun X Y y m h => cell_kept h m (World.block_lt_of_cell? _ _ h) (by omega)) (fun X Y y m h => cell_kept h m (World.block_lt_of_cell? _ _ h) (by omega)) w9 hBs hBn
    have HCS := Lib.hid hcs
    clear hcs hBs hBn hm9 hp0 HBN HBL HM1 hs1 HROW
    go_wp2_with fail
    refine (wpIn_wide (n := 9)).1 ?_
    generalize hfr : Act.mk _ _ = fr
    refine wpIn_rangeFunc_ownF (hro := rfl) (h1 := by omega) (gf := 32) (lb := #[.pointer (some ⟨hx + 2, 0, none⟩), .pointer (some ⟨hx + 2 + 1, 0, none⟩)]) (by rw [← hfr]; rfl) trivial (enters_of Try.func32 (by kernel_rfl) rfl) HCS.out (fun h k => h.trans k (fun _ _ h => h)) (fun W l o o' hl _ _ _ => mod_putObj W l o' (.inr (by omega))) (Below.refl _ _) (fun _ => rfl)
      (fun pre W => (tradesF b nn pre).length ≤ 200 ∧ (∀ x ∈ pre, 5 * x.val + 5 ≤ L) ∧ (∃ p c, W.heap[hx + 1]? = some (.cells #[.slice p (tradesF b nn pre).length c] 36 (0, 0)) ∧ IsVec (fun k => hx + 4 ≤ k) W 39 7 (.slice p (tradesF b nn pre).length c) (tradesF b nn pre).length (trades (tradesF b nn pre))) ∧ Mod (fun k => k = hx + 1 ∨ hx + 4 ≤ k) w9 W)
      (fun c pre W => c = .exit 0 ∧ ∃ pre' x, pre = pre' ++ [x] ∧ (L < 5 * x.val + 5 ∨ (tradesF b nn pre').length = 200) ∧ (tradesF b nn pre').length ≤ 200 ∧ (∀ x ∈ pre', 5 * x.val + 5 ≤ L) ∧ (∃ p c, W.heap[hx + 1]? = some (.cells #[.slice p (tradesF b nn pre').length c] 36 (0, 0)) ∧ IsVec (fun k => hx + 4 ≤ k) W 39 7 (.slice p (tradesF b nn pre').length c) (tradesF b nn pre').length (trades (tradesF b nn pre'))) ∧ Mod (fun k => k = hx + 1 ∨ hx + 4 ≤ k) w9 W)
      ?hI ?hIx ?h0 (fun x => ⟨(fr.tmps.setIfInBounds 13 (chunkAt g o L 5 x.val)).setIfInBounds 6 (chunkAt g o L 5 x.val), []⟩) ?assign ?body ?done ?stop
    case hI =>
      exact ownFrom_cells (fun pre X Y h m => by
        obtain ⟨h0, h1, ⟨p, c, h2, h3⟩, h4⟩ := h
        refine ⟨h0, h1, ⟨p, c, (m.block (hx + 1) (heap_lt h2) (fun hk => by omega)).trans h2, h3.modCells m (fun k o ho hc hk => by obtain ⟨⟨_, o', ho', hc'⟩, _⟩ := hk; rw [ho] at ho'; cases ho'; rw [hc] at hc'; cases hc')⟩, h4.trans m (fun k _ hk => .inr (by omega))⟩)
    case hIx =>
      exact fun c => ownFrom_cells (fun pre X Y h m => by
        obtain ⟨hc, pre', x, hp, hd, h0, h1, ⟨p, c, h2, h3⟩, h4⟩ := h
        refine ⟨hc, pre', x, hp, hd, h0, h1, ⟨p, c, (m.block (hx + 1) (heap_lt h2) (fun hk => by omega)).trans h2, h3.modCells m (fun k o ho hc hk => by obtain ⟨⟨_, o', ho', hc'⟩, _⟩ := hk; rw [ho] at ho'; cases ho'; rw [hc] at hc'; cases hc')⟩, h4.trans m (fun k _ hk => .inr (by omega))⟩)
    case h0 => exact ⟨by simp [tradesF], by simp, ⟨none, 0, HBL9.out, IsVec.nil _ _ _ _⟩, Mod.refl _ _⟩
    case assign =>
      intro l x W K hK
      subst hfr
      gi_wp2
      exact hK
    case body =>
      rintro lq pre x W ⟨h200, hall, ⟨pv, cv, hbl, hvec⟩, hm⟩ hlen
      subst hfr
      simp only [List.setIfInBounds_toArray, List.set_cons_succ, List.set_cons_zero]
      have hxc : 5 * x.val < L := (cnt_lt (by omega)).1 x.isLt
      obtain ⟨N, hN⟩ : ∃ N, (tradesF b nn pre).length = N := ⟨_, rfl⟩
      have hfin : ∀ (W' : World), W' = W → KeepsOthers W W' ∧ (L < 5 * x.val + 5 ∨ N = 200 → (Code.exit 0 = Code.exit 0 ∧ ∃ pre' x', pre ++ [x] = pre' ++ [x'] ∧ (L < 5 * x'.val + 5 ∨ (tradesF b nn pre').length = 200) ∧ (tradesF b nn pre').length ≤ 200 ∧ (∀ x ∈ pre', 5 * x.val + 5 ≤ L) ∧ (∃ p c, W'.heap[hx + 1]? = some (.cells #[.slice p (tradesF b nn pre').length c] 36 (0, 0)) ∧ IsVec (fun k => hx + 4 ≤ k) W' 39 7 (.slice p (tradesF b nn pre').length c) (tradesF b nn pre').length (trades (tradesF b nn pre'))) ∧ Mod (fun k => k = hx + 1 ∨ hx + 4 ≤ k) w9 W')) := fun W' e => by
        subst e
        exact ⟨KeepsOthers.refl _, fun h => ⟨rfl, pre, x, rfl, by rw [hN]; exact h, h200, hall, ⟨pv, cv, hbl, hvec⟩, hm⟩⟩
      have HFIN := Lib.hid hfin
      have cl := cell_of hbl 0
      simp only [List.getElem?_toArray, List.getElem?_cons_zero] at cl
      rw [hN] at cl h200
      have HN := Lib.hid hN
      have HALL := Lib.hid hall
      have HBLW := Lib.hid hbl
      have HVW := Lib.hid hvec
      have HMW := Lib.hid hm
      obtain ⟨i, hi⟩ : ∃ i, 5 * x.val = i := ⟨_, rfl⟩
      rw [hi] at hxc
      have HI := Lib.hid hi
      clear hfin hN hall hbl hvec hm hi
      by_cases hfull : i + 5 ≤ L
      · have hch : chunkAt g o L 5 x.val = .slice (some ⟨g, o + i, none⟩) 5 5 := by unfold chunkAt; rw [HI.out, show min 5 (L - i) = 5 by omega]
        by_cases hmax : N = 200
        · have hmb : ((N : Int) == 200) = true := by simp; omega
          have HMAX := Lib.hid hmax
          clear hmax
          gi_wp2
          have h := HFIN.out W rfl
          have h' := h.2 (.inr HMAX.out)
          exact ⟨h.1, rfl, h'.2⟩
        · have hmb : ((N : Int) == 200) = false := by simp; omega
          have hgx : g < hx := HGX.out (by omega)
          have hcv : ∀ j, j < 5 → ∀ w', Mod (fun k => k = hx + 1 ∨ hx + 4 ≤ k) W w' → w'.cell? ⟨g, o + i + j, none⟩ = some (.int .u8 (b.getD (i + j) 0).toNat) := fun j hj w' m => by
            have h := HRA.out (i + j) (by omega)
            rw [← Nat.add_assoc] at h
            have h2 := cell_kept h HMW.out (World.block_lt_of_cell? _ _ h) (by omega)
            exact cell_kept h2 m (World.block_lt_of_cell? _ _ h2) (by omega)
          obtain ⟨c0, hc0⟩ : ∃ c, (b.getD (i + 0) 0).toNat = c := ⟨_, rfl⟩
          obtain ⟨c1, hc1⟩ : ∃ c, (b.getD (i + 1) 0).toNat = c := ⟨_, rfl⟩
          obtain ⟨c2, hc2⟩ : ∃ c, (b.getD (i + 2) 0).toNat = c := ⟨_, rfl⟩
          obtain ⟨c3, hc3⟩ : ∃ c, (b.getD (i + 3) 0).toNat = c := ⟨_, rfl⟩
          obtain ⟨c4, hc4⟩ : ∃ c, (b.getD (i + 4) 0).toNat = c := ⟨_, rfl⟩
          have hb0 : c0 < 256 := by rw [← hc0]; exact UInt8.toNat_lt _
          have hb1 : c1 < 256 := by rw [← hc1]; exact UInt8.toNat_lt _
          have hb2 : c2 < 256 := by rw [← hc2]; exact UInt8.toNat_lt _
          have hb3 : c3 < 256 := by rw [← hc3]; exact UInt8.toNat_lt _
          have hb4 : c4 < 256 := by rw [← hc4]; exact UInt8.toNat_lt _
          have hcn : ∀ w', Mod (fun k => k = hx + 1 ∨ hx + 4 ≤ k) W w' → w'.cell? ⟨hx, 0, none⟩ = some (.int .i64 nn) := fun w' m => cell_of ((m.block hx (by have := HMW.out.size; omega) (by omega)).trans ((HMW.out.block hx (by omega) (by omega)).trans HBN9.out)) 0
          have HS : Hid (∀ w', Mod (fun k => k = hx + 1 ∨ hx + 4 ≤ k) W w' → w'.cell? ⟨hx, 0, none⟩ = some (.int .i64 nn) ∧ w'.cell? ⟨g, o + i, none⟩ = some (.int .u8 c0) ∧ w'.cell? ⟨g, o + i + 1, none⟩ = some (.int .u8 c1) ∧ w'.cell? ⟨g, o + i + 2, none⟩ = some (.int .u8 c2) ∧ w'.cell? ⟨g, o + i + 3, none⟩ = some (.int .u8 c3) ∧ w'.cell? ⟨g, o + i + 4, none⟩ = some (.int .u8 c4)) := Lib.hid (fun w' m => ⟨hcn w' m, by rw [← hc0]; exact hcv 0 (by omega) w' m, by rw [← hc1]; exact hcv 1 (by omega) w' m, by rw [← hc2]; exact hcv 2 (by omega) w' m, by rw [← hc3]; exact hcv 3 (by omega) w' m, by rw [← hc4]; exact hcv 4 (by omega) w' m⟩)
          have HT5 : Hid (tradeOf ((b.drop i).take 5) nn N = ⟨N, (c0 % nn : Nat), ((c0 % nn + 1 + c1 % (nn - 1)) % nn : Nat), (c2 % 2 : Nat), (1 + c3 % 50 : Nat), (c2 / 2 % 2 : Nat), (1 + c4 % 50 : Nat)⟩) := Lib.hid (by
            have hg : ∀ j, j < 5 → ((b.drop i).take 5).getD j 0 = b.getD (i + j) 0 := fun j hj => by simp [List.getD_eq_getElem?_getD, List.getElem?_take, List.getElem?_drop, hj]
            unfold tradeOf
            rw [hg 0 (by omega), hg 1 (by omega), hg 2 (by omega), hg 3 (by omega), hg 4 (by omega), hc0, hc1, hc2, hc3, hc4])
          clear hcv hc0 hc1 hc2 hc3 hc4 hcn
          have hn0 : ¬ (nn : Int) = 0 := by omega
          have hnn : ¬ nn = 0 := by omega
          have hw0 : IntKind.i64.wrap (c0 : Int) = (c0 : Int) := by rw [IntKind.wrap_i64]; omega
          have hw1 : IntKind.i64.wrap (c1 : Int) = (c1 : Int) := by rw [IntKind.wrap_i64]; omega
          have hw2 : IntKind.i64.wrap (c2 : Int) = (c2 : Int) := by rw [IntKind.wrap_i64]; omega
          have hw3 : IntKind.i64.wrap (c3 : Int) = (c3 : Int) := by rw [IntKind.wrap_i64]; omega
          have hw4 : IntKind.i64.wrap (c4 : Int) = (c4 : Int) := by rw [IntKind.wrap_i64]; omega
          obtain ⟨B0, hB0⟩ : ∃ B0, c0 % nn = B0 := ⟨_, rfl⟩
          obtain ⟨m1, hm1⟩ : ∃ m1, nn - 1 = m1 := ⟨_, rfl⟩
          obtain ⟨R1, hR1⟩ : ∃ R1, c1 % m1 = R1 := ⟨_, rfl⟩
          obtain ⟨S1, hS1⟩ : ∃ S1, B0 + 1 = S1 := ⟨_, rfl⟩
          obtain ⟨S2, hS2⟩ : ∃ S2, S1 + R1 = S2 := ⟨_, rfl⟩
          obtain ⟨R2, hR2⟩ : ∃ R2, S2 % nn = R2 := ⟨_, rfl⟩
          obtain ⟨A2, hA2⟩ : ∃ A2, c2 % 2 = A2 := ⟨_, rfl⟩
          obtain ⟨A3, hA3⟩ : ∃ A3, c3 % 50 = A3 := ⟨_, rfl⟩
          obtain ⟨Q3, hQ3⟩ : ∃ Q3, 1 + A3 = Q3 := ⟨_, rfl⟩
          obtain ⟨D2, hD2⟩ : ∃ D2, c2 / 2 = D2 := ⟨_, rfl⟩
          obtain ⟨A5, hA5⟩ : ∃ A5, D2 % 2 = A5 := ⟨_, rfl⟩
          obtain ⟨A4, hA4⟩ : ∃ A4, c4 % 50 = A4 := ⟨_, rfl⟩
          obtain ⟨Q4, hQ4⟩ : ∃ Q4, 1 + A4 = Q4 := ⟨_, rfl⟩
          have hB0b : B0 < 16 := by have := Nat.mod_lt c0 (show 0 < nn by omega); omega
          have hR1b : R1 < 16 := by have := Nat.mod_lt c1 (show 0 < m1 by omega); omega
          have hm10 : ¬ m1 = 0 := by omega
          have e1 : (c0 : Int).tmod (nn : Int) = (B0 : Int) := by rw [← hB0]; rfl
          have e2 : IntKind.i64.wrap ((nn : Int) - 1) = (m1 : Int) := by rw [IntKind.wrap_i64]; omega
          have e3 : (c1 : Int).tmod (m1 : Int) = (R1 : Int) := by rw [← hR1]; rfl
          have e4 : IntKind.i64.wrap ((B0 : Int) + 1) = (S1 : Int) := by rw [IntKind.wrap_i64]; omega
          have e5 : IntKind.i64.wrap ((S1 : Int) + (R1 : Int)) = (S2 : Int) := by rw [IntKind.wrap_i64]; omega
          have e6 : (S2 : Int).tmod (nn : Int) = (R2 : Int) := by rw [← hR2]; rfl
          have e7 : (c2 : Int).tmod 2 = (A2 : Int) := by rw [← hA2]; rfl
          have e8 : (c3 : Int).tmod 50 = (A3 : Int) := by rw [← hA3]; rfl
          have e9 : IntKind.i64.wrap (1 + (A3 : Int)) = (Q3 : Int) := by rw [IntKind.wrap_i64]; omega
          have e10 : (c2 : Int).tdiv 2 = (D2 : Int) := by rw [← hD2]; rfl
          have e11 : (D2 : Int).tmod 2 = (A5 : Int) := by rw [← hA5]; rfl
          have e12 : (c4 : Int).tmod 50 = (A4 : Int) := by rw [← hA4]; rfl
          have e13 : IntKind.i64.wrap (1 + (A4 : Int)) = (Q4 : Int) := by rw [IntKind.wrap_i64]; omega
          have e14 : IntKind.i64.wrap (D2 : Int) = (D2 : Int) := by rw [IntKind.wrap_i64]; omega
          rw [hB0, hm1, hR1, hS1, hS2, hR2, hA2, hA3, hQ3, hD2, hA5, hA4, hQ4] at HT5
          clear hB0 hm1 hR1 hS1 hS2 hR2 hA2 hA3 hQ3 hD2 hA5 hA4 hQ4
          gi_wp2
--R7
          refine region_round (by kernel_rfl) (by kernel_rfl) (by rintro ⟨_, _, h⟩; exact (h : False)) ?_
          refine wpAny_of_held (S := (fun w' => w'.cell? ⟨hx, 0, none⟩ = some (.int .i64 nn) ∧ w'.cell? ⟨g, o + i, none⟩ = some (.int .u8 c0) ∧ w'.cell? ⟨g, o + i + 1, none⟩ = some (.int .u8 c1) ∧ w'.cell? ⟨g, o + i + 2, none⟩ = some (.int .u8 c2) ∧ w'.cell? ⟨g, o + i + 3, none⟩ = some (.int .u8 c3) ∧ w'.cell? ⟨g, o + i + 4, none⟩ = some (.int .u8 c4))) _ _ _ _ ?_
          have hHeld := HS.out (W).drew ((Mod.refl _ _).drew)
          refine wpAnyH_take (i := 0) (v := ?_) rfl (by kernel_rfl) (by kernel_rfl) (by kernel_rfl) (fun _ _ _ h => h) (Or.inl ⟨by kernel_rfl, ?_⟩) (by assumption) ?_
          rotate_left
          · intro w hSw; (try dsimp only at hSw); (first | (go_simp; done) | (go_simp; with_reducible rfl))
          (try simp only [Act.put, List.getElem_toArray, List.getElem_cons_succ, List.getElem_cons_zero, List.setIfInBounds_toArray, List.set_cons_succ, List.set_cons_zero])
          refine wpAnyH_take (i := 1) (v := ?_) rfl (by kernel_rfl) (by kernel_rfl) (by kernel_rfl) (fun _ _ _ h => h) (Or.inl ⟨by kernel_rfl, ?_⟩) (by assumption) ?_
          rotate_left
          · intro w hSw; (try dsimp only at hSw); (first | (go_simp; done) | (go_simp; with_reducible rfl))
          (try simp only [Act.put, List.getElem_toArray, List.getElem_cons_succ, List.getElem_cons_zero, List.setIfInBounds_toArray, List.set_cons_succ, List.set_cons_zero])
          refine wpAnyH_take (i := 2) (v := ?_) rfl (by kernel_rfl) (by kernel_rfl) (by kernel_rfl) (fun _ _ _ h => h) (Or.inl ⟨by kernel_rfl, ?_⟩) (by assumption) ?_
          rotate_left
          · intro w hSw; (try dsimp only at hSw); (first | (go_simp; done) | (go_simp; with_reducible rfl))
          (try simp only [Act.put, List.getElem_toArray, List.getElem_cons_succ, List.getElem_cons_zero, List.setIfInBounds_toArray, List.set_cons_succ, List.set_cons_zero])
          refine wpAnyH_take (i := 3) (v := ?_) rfl (by kernel_rfl) (by kernel_rfl) (by kernel_rfl) (fun _ _ _ h => h) (Or.inl ⟨by kernel_rfl, ?_⟩) (by assumption) ?_
          rotate_left
          · intro w hSw; (try dsimp only at hSw); (first | (go_simp; done) | (go_simp; with_reducible rfl))
          (try simp only [Act.put, List.getElem_toArray, List.getElem_cons_succ, List.getElem_cons_zero, List.setIfInBounds_toArray, List.set_cons_succ, List.set_cons_zero])
          refine wpAnyH_take (i := 4) (v := ?_) rfl (by kernel_rfl) (by kernel_rfl) (by kernel_rfl) (fun _ _ _ h => h) (Or.inl ⟨by kernel_rfl, ?_⟩) (by assumption) ?_
          rotate_left
          · intro w hSw; (try dsimp only at hSw); (first | (go_simp; done) | (go_simp; with_reducible rfl))
          (try simp only [Act.put, List.getElem_toArray, List.getElem_cons_succ, List.getElem_cons_zero, List.setIfInBounds_toArray, List.set_cons_succ, List.set_cons_zero])
          refine wpAnyH_take (i := 5) (v := ?_) rfl (by kernel_rfl) (by kernel_rfl) (by kernel_rfl) (fun _ _ _ h => h) (Or.inl ⟨by kernel_rfl, ?_⟩) (by assumption) ?_
          rotate_left
          · intro w hSw; (try dsimp only at hSw); (first | (go_simp; done) | (go_simp; with_reducible rfl))
          (try simp only [Act.put, List.getElem_toArray, List.getElem_cons_succ, List.getElem_cons_zero, List.setIfInBounds_toArray, List.set_cons_succ, List.set_cons_zero])
          refine wpAnyH_take (i := 6) (v := ?_) rfl (by kernel_rfl) (by kernel_rfl) (by kernel_rfl) (fun _ _ _ h => h) (Or.inl ⟨by kernel_rfl, ?_⟩) (by assumption) ?_
          rotate_left
          · intro w hSw; (try dsimp only at hSw); (first | (go_simp; done) | (go_simp; with_reducible rfl))
          (try simp only [Act.put, List.getElem_toArray, List.getElem_cons_succ, List.getElem_cons_zero, List.setIfInBounds_toArray, List.set_cons_succ, List.set_cons_zero])
          refine wpAnyH_done (by kernel_rfl) ?_ _
--R7END
          gi_wp2
          obtain ⟨TL, hTL⟩ : ∃ TL, tradesF b nn pre = TL := ⟨_, rfl⟩
          obtain ⟨i0, hi0, hz0, hz1, hz2⟩ := info_parts info_trade
          have HI0 := Lib.hid (And.intro hi0 (And.intro hz0 (And.intro hz1 hz2)))
          have HVN : Hid (IsVec (fun k => hx + 4 ≤ k) W 39 7 (.slice pv N cv) N (trades TL)) := Lib.hid (by have h := HVW.out; rw [HN.out, hTL] at h; exact h)
          have HONE : Hid (∀ u ∈ ([.int .i64 N, .int .i64 B0, .int .i64 R2, .int .i64 A2, .int .i64 Q3, .int .i64 A5, .int .i64 Q4] : List Value), u.oneCell' = true) := Lib.hid (by
            intro u hu
            simp only [List.mem_cons, List.not_mem_nil, or_false] at hu
            rcases hu with rfl | rfl | rfl | rfl | rfl | rfl | rfl <;> rfl)
          have HTL := Lib.hid hTL
          have HBLN : Hid (W.heap[hx + 1]? = some (.cells #[.slice pv N cv] 36 (0, 0))) := Lib.hid (by have h := HBLW.out; rw [HN.out] at h; exact h)
          have HSZ : Hid (hx + 4 ≤ W.heap.size) := Lib.hid (by have := HMW.out.size; omega)
          have HEND : Hid (∀ w' p7 q7, KeepsOthers W w' → Mod (fun k => k = hx + 1 ∨ hx + 4 ≤ k) W w' → w'.heap[hx + 1]? = some (.cells #[.slice p7 (N + 1) q7] 36 (0, 0)) → IsVec (fun k => hx + 4 ≤ k) w' 39 7 (.slice p7 (N + 1) q7) (N + 1) (trades TL ++ [.int .i64 N, .int .i64 B0, .int .i64 R2, .int .i64 A2, .int .i64 Q3, .int .i64 A5, .int .i64 Q4]) →
              KeepsOthers W w' ∧ ((tradesF b nn (pre ++ [x])).length ≤ 200 ∧ (∀ y ∈ pre ++ [x], 5 * y.val + 5 ≤ L) ∧ (∃ p c, w'.heap[hx + 1]? = some (.cells #[.slice p (tradesF b nn (pre ++ [x])).length c] 36 (0, 0)) ∧ IsVec (fun k => hx + 4 ≤ k) w' 39 7 (.slice p (tradesF b nn (pre ++ [x])).length c) (tradesF b nn (pre ++ [x])).length (trades (tradesF b nn (pre ++ [x])))) ∧ Mod (fun k => k = hx + 1 ∨ hx + 4 ≤ k) w9 w')) := Lib.hid (fun w' p7 q7 k m hb hv => by
            have hl : (tradesF b nn (pre ++ [x])).length = N + 1 := by rw [tradesF_snoc, List.length_append, HN.out]; rfl
            have ht : trades (tradesF b nn (pre ++ [x])) = trades TL ++ [.int .i64 N, .int .i64 B0, .int .i64 R2, .int .i64 A2, .int .i64 Q3, .int .i64 A5, .int .i64 Q4] := by
              have h := HN.out
              rw [tradesF_snoc, HI.out, h, HT5.out, hTL]
              simp only [trades, List.flatMap_append, List.flatMap_cons, List.flatMap_nil, List.append_nil]
              rfl
            rw [hl, ht]
            refine ⟨k, by omega, fun y hy => ?_, ⟨p7, q7, hb, hv⟩, HMW.out.trans m (fun k _ hk => by omega)⟩
            rcases List.mem_append.1 hy with hy | hy
            · exact HALL.out y hy
            · have e : y = x := List.mem_singleton.1 hy
              rw [e]
              have := HI.out
              omega)
          clear hTL hi0 hz0 hz1 hz2
--R8
          refine region_round (by kernel_rfl) (by kernel_rfl) (by rintro ⟨_, _, h⟩; exact (h : False)) ?_
          have hmd : Mod (fun k => k = hx + 1 ∨ hx + 4 ≤ k) W W.drew.drew := ((Mod.refl _ _).drew).drew
          have HMD := Lib.hid hmd
          clear hmd
          refine wpAny_of_held (S := (fun w' => w'.cell? ⟨hx, 0, none⟩ = some (.int .i64 nn) ∧ w'.cell? ⟨g, o + i, none⟩ = some (.int .u8 c0) ∧ w'.cell? ⟨g, o + i + 1, none⟩ = some (.int .u8 c1) ∧ w'.cell? ⟨g, o + i + 2, none⟩ = some (.int .u8 c2) ∧ w'.cell? ⟨g, o + i + 3, none⟩ = some (.int .u8 c3) ∧ w'.cell? ⟨g, o + i + 4, none⟩ = some (.int .u8 c4))) _ _ _ _ ?_
          have hHeld := HS.out _ HMD.out
          refine wpAnyH_take (i := 3) (v := ?_) rfl (by kernel_rfl) (by kernel_rfl) (by kernel_rfl) (fun _ _ _ h => h) (Or.inl ⟨by kernel_rfl, ?_⟩) (by assumption) ?_
          rotate_left
          · intro w hSw; (try dsimp only at hSw); (first | (go_simp; done) | (go_simp; with_reducible rfl))
          (try simp only [Act.put, List.getElem_toArray, List.getElem_cons_succ, List.getElem_cons_zero, List.setIfInBounds_toArray, List.set_cons_succ, List.set_cons_zero])
          refine wpAnyH_take (i := 4) (v := ?_) rfl (by kernel_rfl) (by kernel_rfl) (by kernel_rfl) (fun _ _ _ h => h) (Or.inl ⟨by kernel_rfl, ?_⟩) (by assumption) ?_
          rotate_left
          · intro w hSw; (try dsimp only at hSw); (first | (go_simp; done) | (go_simp; with_reducible rfl))
          (try simp only [Act.put, List.getElem_toArray, List.getElem_cons_succ, List.getElem_cons_zero, List.setIfInBounds_toArray, List.set_cons_succ, List.set_cons_zero])
          refine wpAnyH_take (i := 5) (v := ?_) rfl (by kernel_rfl) (by kernel_rfl) (by kernel_rfl) (fun _ _ _ h => h) (Or.inl ⟨by kernel_rfl, ?_⟩) (by assumption) ?_
          rotate_left
          · intro w hSw; (try dsimp only at hSw); (first | (go_simp; done) | (go_simp; with_reducible rfl))
          (try simp only [Act.put, List.getElem_toArray, List.getElem_cons_succ, List.getElem_cons_zero, List.setIfInBounds_toArray, List.set_cons_succ, List.set_cons_zero])
          refine wpAnyH_take (i := 6) (v := ?_) rfl (by kernel_rfl) (by kernel_rfl) (by kernel_rfl) (fun _ _ _ h => h) (Or.inl ⟨by kernel_rfl, ?_⟩) (by assumption) ?_
          rotate_left
          · intro w hSw; (try dsimp only at hSw); (first | (go_simp; done) | (go_simp; with_reducible rfl))
          (try simp only [Act.put, List.getElem_toArray, List.getElem_cons_succ, List.getElem_cons_zero, List.setIfInBounds_toArray, List.set_cons_succ, List.set_cons_zero])
          refine wpAnyH_take (i := 7) (v := ?_) rfl (by kernel_rfl) (by kernel_rfl) (by kernel_rfl) (fun _ _ _ h => h) (Or.inl ⟨by kernel_rfl, ?_⟩) (by assumption) ?_
          rotate_left
          · intro w hSw; (try dsimp only at hSw); (first | (go_simp; done) | (go_simp; with_reducible rfl))
          (try simp only [Act.put, List.getElem_toArray, List.getElem_cons_succ, List.getElem_cons_zero, List.setIfInBounds_toArray, List.set_cons_succ, List.set_cons_zero])
          refine wpAnyH_take (i := 8) (v := ?_) rfl (by kernel_rfl) (by kernel_rfl) (by kernel_rfl) (fun _ _ _ h => h) (Or.inl ⟨by kernel_rfl, ?_⟩) (by assumption) ?_
          rotate_left
          · intro w hSw; (try dsimp only at hSw); (first | (go_simp; done) | (go_simp; with_reducible rfl))
          (try simp only [Act.put, List.getElem_toArray, List.getElem_cons_succ, List.getElem_cons_zero, List.setIfInBounds_toArray, List.set_cons_succ, List.set_cons_zero])
          refine wpAnyH_take (i := 9) (v := ?_) rfl (by kernel_rfl) (by kernel_rfl) (by kernel_rfl) (fun _ _ _ h => h) (Or.inl ⟨by kernel_rfl, ?_⟩) (by assumption) ?_
          rotate_left
          · intro w hSw; (try dsimp only at hSw); (first | (go_simp; done) | (go_simp; with_reducible rfl))
          (try simp only [Act.put, List.getElem_toArray, List.getElem_cons_succ, List.getElem_cons_zero, List.setIfInBounds_toArray, List.set_cons_succ, List.set_cons_zero])
          refine wpAnyH_take (i := 10) (v := ?_) rfl (by kernel_rfl) (by kernel_rfl) (by kernel_rfl) (fun _ _ _ h => h) (Or.inl ⟨by kernel_rfl, ?_⟩) (by assumption) ?_
          rotate_left
          · intro w hSw; (try dsimp only at hSw); (first | (go_simp; done) | (go_simp; with_reducible rfl))
          (try simp only [Act.put, List.getElem_toArray, List.getElem_cons_succ, List.getElem_cons_zero, List.setIfInBounds_toArray, List.set_cons_succ, List.set_cons_zero])
          refine wpAnyH_take (i := 11) (v := ?_) rfl (by kernel_rfl) (by kernel_rfl) (by kernel_rfl) (fun _ _ _ h => h) (Or.inl ⟨by kernel_rfl, ?_⟩) (by assumption) ?_
          rotate_left
          · intro w hSw; (try dsimp only at hSw); (first | (go_simp; done) | (go_simp; with_reducible rfl))
          (try simp only [Act.put, List.getElem_toArray, List.getElem_cons_succ, List.getElem_cons_zero, List.setIfInBounds_toArray, List.set_cons_succ, List.set_cons_zero])
          refine wpAnyH_take (i := 12) (v := ?_) rfl (by kernel_rfl) (by kernel_rfl) (by kernel_rfl) (fun _ _ _ h => h) (Or.inl ⟨by kernel_rfl, ?_⟩) (by assumption) ?_
          rotate_left
          · intro w hSw; (try dsimp only at hSw); (first | (go_simp; done) | (go_simp; with_reducible rfl))
          (try simp only [Act.put, List.getElem_toArray, List.getElem_cons_succ, List.getElem_cons_zero, List.setIfInBounds_toArray, List.set_cons_succ, List.set_cons_zero])
          refine wpAnyH_take (i := 13) (v := ?_) rfl (by kernel_rfl) (by kernel_rfl) (by kernel_rfl) (fun _ _ _ h => h) (Or.inl ⟨by kernel_rfl, ?_⟩) (by assumption) ?_
          rotate_left
          · intro w hSw; (try dsimp only at hSw); (first | (go_simp; done) | (go_simp; with_reducible rfl))
          (try simp only [Act.put, List.getElem_toArray, List.getElem_cons_succ, List.getElem_cons_zero, List.setIfInBounds_toArray, List.set_cons_succ, List.set_cons_zero])
          refine wpAnyH_take (i := 14) (v := ?_) rfl (by kernel_rfl) (by kernel_rfl) (by kernel_rfl) (fun _ _ _ h => h) (Or.inl ⟨by kernel_rfl, ?_⟩) (by assumption) ?_
          rotate_left
          · intro w hSw; (try dsimp only at hSw); (first | (go_simp; done) | (go_simp; with_reducible rfl))
          (try simp only [Act.put, List.getElem_toArray, List.getElem_cons_succ, List.getElem_cons_zero, List.setIfInBounds_toArray, List.set_cons_succ, List.set_cons_zero])
          refine wpAnyH_take (i := 15) (v := ?_) rfl (by kernel_rfl) (by kernel_rfl) (by kernel_rfl) (fun _ _ _ h => h) (Or.inl ⟨by kernel_rfl, ?_⟩) (by assumption) ?_
          rotate_left
          · intro w hSw; (try dsimp only at hSw); (first | (go_simp; done) | (go_simp; with_reducible rfl))
          (try simp only [Act.put, List.getElem_toArray, List.getElem_cons_succ, List.getElem_cons_zero, List.setIfInBounds_toArray, List.set_cons_succ, List.set_cons_zero])
          refine wpAnyH_take (i := 16) (v := ?_) rfl (by kernel_rfl) (by kernel_rfl) (by kernel_rfl) (fun _ _ _ h => h) (Or.inl ⟨by kernel_rfl, ?_⟩) (by assumption) ?_
          rotate_left
          · intro w hSw; (try dsimp only at hSw); (first | (go_simp; done) | (go_simp; with_reducible rfl))
          (try simp only [Act.put, List.getElem_toArray, List.getElem_cons_succ, List.getElem_cons_zero, List.setIfInBounds_toArray, List.set_cons_succ, List.set_cons_zero])
          refine wpAnyH_take (i := 17) (v := ?_) rfl (by kernel_rfl) (by kernel_rfl) (by kernel_rfl) (fun _ _ _ h => h) (Or.inl ⟨by kernel_rfl, ?_⟩) (by assumption) ?_
          rotate_left
          · intro w hSw; (try dsimp only at hSw); (first | (go_simp; done) | (go_simp; with_reducible rfl))
          (try simp only [Act.put, List.getElem_toArray, List.getElem_cons_succ, List.getElem_cons_zero, List.setIfInBounds_toArray, List.set_cons_succ, List.set_cons_zero])
          refine wpAnyH_take (i := 18) (v := ?_) rfl (by kernel_rfl) (by kernel_rfl) (by kernel_rfl) (fun _ _ _ h => h) (Or.inl ⟨by kernel_rfl, ?_⟩) (by assumption) ?_
          rotate_left
          · intro w hSw; (try dsimp only at hSw); (first | (go_simp; done) | (go_simp; with_reducible rfl))
          (try simp only [Act.put, List.getElem_toArray, List.getElem_cons_succ, List.getElem_cons_zero, List.setIfInBounds_toArray, List.set_cons_succ, List.set_cons_zero])
          refine wpAnyH_take (i := 19) (v := ?_) rfl (by kernel_rfl) (by kernel_rfl) (by kernel_rfl) (fun _ _ _ h => h) (Or.inl ⟨by kernel_rfl, ?_⟩) (by assumption) ?_
          rotate_left
          · intro w hSw; (try dsimp only at hSw); (first | (go_simp; done) | (go_simp; with_reducible rfl))
          (try simp only [Act.put, List.getElem_toArray, List.getElem_cons_succ, List.getElem_cons_zero, List.setIfInBounds_toArray, List.set_cons_succ, List.set_cons_zero])
          refine wpAnyH_take (i := 20) (v := ?_) rfl (by kernel_rfl) (by kernel_rfl) (by kernel_rfl) (fun _ _ _ h => h) (Or.inl ⟨by kernel_rfl, ?_⟩) (by assumption) ?_
          rotate_left
          · intro w hSw; (try dsimp only at hSw); (first | (go_simp; done) | (go_simp; with_reducible rfl))
          (try simp only [Act.put, List.getElem_toArray, List.getElem_cons_succ, List.getElem_cons_zero, List.setIfInBounds_toArray, List.set_cons_succ, List.set_cons_zero])
          refine wpAnyH_take (i := 21) (v := ?_) rfl (by kernel_rfl) (by kernel_rfl) (by kernel_rfl) (fun _ _ _ h => h) (Or.inl ⟨by kernel_rfl, ?_⟩) (by assumption) ?_
          rotate_left
          · intro w hSw; (try dsimp only at hSw); (first | (go_simp; done) | (go_simp; with_reducible rfl))
          (try simp only [Act.put, List.getElem_toArray, List.getElem_cons_succ, List.getElem_cons_zero, List.setIfInBounds_toArray, List.set_cons_succ, List.set_cons_zero])
          refine wpAnyH_take (i := 22) (v := ?_) rfl (by kernel_rfl) (by kernel_rfl) (by kernel_rfl) (fun _ _ _ h => h) (Or.inl ⟨by kernel_rfl, ?_⟩) (by assumption) ?_
          rotate_left
          · intro w hSw; (try dsimp only at hSw); (first | (go_simp; done) | (go_simp; with_reducible rfl))
          (try simp only [Act.put, List.getElem_toArray, List.getElem_cons_succ, List.getElem_cons_zero, List.setIfInBounds_toArray, List.set_cons_succ, List.set_cons_zero])
          refine wpAnyH_take (i := 23) (v := ?_) rfl (by kernel_rfl) (by kernel_rfl) (by kernel_rfl) (fun _ _ _ h => h) (Or.inl ⟨by kernel_rfl, ?_⟩) (by assumption) ?_
          rotate_left
          · intro w hSw; (try dsimp only at hSw); (first | (go_simp; done) | (go_simp; with_reducible rfl))
          (try simp only [Act.put, List.getElem_toArray, List.getElem_cons_succ, List.getElem_cons_zero, List.setIfInBounds_toArray, List.set_cons_succ, List.set_cons_zero])
          refine wpAnyH_take (i := 24) (v := ?_) rfl (by kernel_rfl) (by kernel_rfl) (by kernel_rfl) (fun _ _ _ h => h) (Or.inl ⟨by kernel_rfl, ?_⟩) (by assumption) ?_
          rotate_left
          · intro w hSw; (try dsimp only at hSw); (first | (go_simp; done) | (go_simp; with_reducible rfl))
          (try simp only [Act.put, List.getElem_toArray, List.getElem_cons_succ, List.getElem_cons_zero, List.setIfInBounds_toArray, List.set_cons_succ, List.set_cons_zero])
          refine wpAnyH_take (i := 25) (v := ?_) rfl (by kernel_rfl) (by kernel_rfl) (by kernel_rfl) (fun _ _ _ h => h) (Or.inl ⟨by kernel_rfl, ?_⟩) (by assumption) ?_
          rotate_left
          · intro w hSw; (try dsimp only at hSw); (first | (go_simp; done) | (go_simp; with_reducible rfl))
          (try simp only [Act.put, List.getElem_toArray, List.getElem_cons_succ, List.getElem_cons_zero, List.setIfInBounds_toArray, List.set_cons_succ, List.set_cons_zero])
          refine wpAnyH_take (i := 26) (v := ?_) rfl (by kernel_rfl) (by kernel_rfl) (by kernel_rfl) (fun _ _ _ h => h) (Or.inl ⟨by kernel_rfl, ?_⟩) (by assumption) ?_
          rotate_left
          · intro w hSw; (try dsimp only at hSw); (first | (go_simp; done) | (go_simp; with_reducible rfl))
          (try simp only [Act.put, List.getElem_toArray, List.getElem_cons_succ, List.getElem_cons_zero, List.setIfInBounds_toArray, List.set_cons_succ, List.set_cons_zero])
          refine wpAnyH_take (i := 27) (v := ?_) rfl (by kernel_rfl) (by kernel_rfl) (by kernel_rfl) (fun _ _ _ h => h) (Or.inl ⟨by kernel_rfl, ?_⟩) (by assumption) ?_
          rotate_left
          · intro w hSw; (try dsimp only at hSw); (first | (go_simp; done) | (go_simp; with_reducible rfl))
          (try simp only [Act.put, List.getElem_toArray, List.getElem_cons_succ, List.getElem_cons_zero, List.setIfInBounds_toArray, List.set_cons_succ, List.set_cons_zero])
          refine wpAnyH_take (i := 28) (v := ?_) rfl (by kernel_rfl) (by kernel_rfl) (by kernel_rfl) (fun _ _ _ h => h) (Or.inl ⟨by kernel_rfl, ?_⟩) (by assumption) ?_
          rotate_left
          · intro w hSw; (try dsimp only at hSw); (first | (go_simp; done) | (go_simp; with_reducible rfl))
          (try simp only [Act.put, List.getElem_toArray, List.getElem_cons_succ, List.getElem_cons_zero, List.setIfInBounds_toArray, List.set_cons_succ, List.set_cons_zero])
          refine wpAnyH_take (i := 29) (v := ?_) rfl (by kernel_rfl) (by kernel_rfl) (by kernel_rfl) (fun _ _ _ h => h) (Or.inl ⟨by kernel_rfl, ?_⟩) (by assumption) ?_
          rotate_left
          · intro w hSw; (try dsimp only at hSw); (first | (go_simp; done) | (go_simp; with_reducible rfl))
          (try simp only [Act.put, List.getElem_toArray, List.getElem_cons_succ, List.getElem_cons_zero, List.setIfInBounds_toArray, List.set_cons_succ, List.set_cons_zero])
          refine wpAnyH_take (i := 30) (v := ?_) rfl (by kernel_rfl) (by kernel_rfl) (by kernel_rfl) (fun _ _ _ h => h) (Or.inl ⟨by kernel_rfl, ?_⟩) (by assumption) ?_
          rotate_left
          · intro w hSw; (try dsimp only at hSw); (first | (go_simp; done) | (go_simp; with_reducible rfl))
          (try simp only [Act.put, List.getElem_toArray, List.getElem_cons_succ, List.getElem_cons_zero, List.setIfInBounds_toArray, List.set_cons_succ, List.set_cons_zero])
          refine wpAnyH_take (i := 31) (v := ?_) rfl (by kernel_rfl) (by kernel_rfl) (by kernel_rfl) (fun _ _ _ h => h) (Or.inl ⟨by kernel_rfl, ?_⟩) (by assumption) ?_
          rotate_left
          · intro w hSw; (try dsimp only at hSw); (first | (go_simp; done) | (go_simp; with_reducible rfl))
          (try simp only [Act.put, List.getElem_toArray, List.getElem_cons_succ, List.getElem_cons_zero, List.setIfInBounds_toArray, List.set_cons_succ, List.set_cons_zero])
          refine wpAnyH_take (i := 32) (v := ?_) rfl (by kernel_rfl) (by kernel_rfl) (by kernel_rfl) (fun _ _ _ h => h) (Or.inl ⟨by kernel_rfl, ?_⟩) (by assumption) ?_
          rotate_left
          · intro w hSw; (try dsimp only at hSw); (first | (go_simp; done) | (go_simp; with_reducible rfl))
          (try simp only [Act.put, List.getElem_toArray, List.getElem_cons_succ, List.getElem_cons_zero, List.setIfInBounds_toArray, List.set_cons_succ, List.set_cons_zero])
          refine wpAnyH_take (i := 33) (v := ?_) rfl (by kernel_rfl) (by kernel_rfl) (by kernel_rfl) (fun _ _ _ h => h) (Or.inl ⟨by kernel_rfl, ?_⟩) (by assumption) ?_
          rotate_left
          · intro w hSw; (try dsimp only at hSw); (first | (go_simp; done) | (go_simp; with_reducible rfl))
          (try simp only [Act.put, List.getElem_toArray, List.getElem_cons_succ, List.getElem_cons_zero, List.setIfInBounds_toArray, List.set_cons_succ, List.set_cons_zero])
          refine wpAnyH_take (i := 34) (v := ?_) rfl (by kernel_rfl) (by kernel_rfl) (by kernel_rfl) (fun _ _ _ h => h) (Or.inl ⟨by kernel_rfl, ?_⟩) (by assumption) ?_
          rotate_left
          · intro w hSw; (try dsimp only at hSw); (first | (go_simp; done) | (go_simp; with_reducible rfl))
          (try simp only [Act.put, List.getElem_toArray, List.getElem_cons_succ, List.getElem_cons_zero, List.setIfInBounds_toArray, List.set_cons_succ, List.set_cons_zero])
          refine wpAnyH_take (i := 35) (v := ?_) rfl (by kernel_rfl) (by kernel_rfl) (by kernel_rfl) (fun _ _ _ h => h) (Or.inl ⟨by kernel_rfl, ?_⟩) (by assumption) ?_
          rotate_left
          · intro w hSw; (try dsimp only at hSw); (first | (go_simp; done) | (go_simp; with_reducible rfl))
          (try simp only [Act.put, List.getElem_toArray, List.getElem_cons_succ, List.getElem_cons_zero, List.setIfInBounds_toArray, List.set_cons_succ, List.set_cons_zero])
          refine wpAnyH_take (i := 36) (v := ?_) rfl (by kernel_rfl) (by kernel_rfl) (by kernel_rfl) (fun _ _ _ h => h) (Or.inl ⟨by kernel_rfl, ?_⟩) (by assumption) ?_
          rotate_left
          · intro w hSw; (try dsimp only at hSw); (first | (go_simp; done) | (go_simp; with_reducible rfl))
          (try simp only [Act.put, List.getElem_toArray, List.getElem_cons_succ, List.getElem_cons_zero, List.setIfInBounds_toArray, List.set_cons_succ, List.set_cons_zero])
          refine wpAnyH_take (i := 37) (v := ?_) rfl (by kernel_rfl) (by kernel_rfl) (by kernel_rfl) (fun _ _ _ h => h) (Or.inl ⟨by kernel_rfl, ?_⟩) (by assumption) ?_
          rotate_left
          · intro w hSw; (try dsimp only at hSw); (first | (go_simp; done) | (go_simp; with_reducible rfl))
          (try simp only [Act.put, List.getElem_toArray, List.getElem_cons_succ, List.getElem_cons_zero, List.setIfInBounds_toArray, List.set_cons_succ, List.set_cons_zero])
          refine wpAnyH_take (i := 38) (v := ?_) rfl (by kernel_rfl) (by kernel_rfl) (by kernel_rfl) (fun _ _ _ h => h) (Or.inl ⟨by kernel_rfl, ?_⟩) (by assumption) ?_
          rotate_left
          · intro w hSw; (try dsimp only at hSw); (first | (go_simp; done) | (go_simp; with_reducible rfl))
          (try simp only [Act.put, List.getElem_toArray, List.getElem_cons_succ, List.getElem_cons_zero, List.setIfInBounds_toArray, List.set_cons_succ, List.set_cons_zero])
          refine wpAnyH_ready (rs := [0, 1]) (by kernel_rfl) (by simp) ?_
          refine AllReadyH.cons (i := 0) rfl (fun K hK => ?_) ?_
          · (try dsimp (config := { proj := false }) only [List.getElem_toArray, List.getElem_cons_succ, List.getElem_cons_zero])
            go_simp
            refine hK.out _ _ (HS.out _ HMD.out) (fun hHeld => ?_)
            clear hK K
            (try simp only [Act.put, List.setIfInBounds_toArray, List.set_cons_zero, List.set_cons_succ])
            (try simp only [List.set_cons_succ, List.set_cons_zero])
            refine wpAnyH_ready (rs := [1]) (by kernel_rfl) (by simp) ?_
            refine AllReadyH.cons (i := 1) rfl (fun K hK => ?_) AllReadyH.nil
            (try dsimp (config := { proj := false }) only [List.getElem_toArray, List.getElem_cons_succ, List.getElem_cons_zero])
            go_simp
            refine hK.out _ _ (HS.out _ HMD.out) (fun hHeld => ?_)
            clear hK K
            (try simp only [Act.put, List.setIfInBounds_toArray, List.set_cons_zero, List.set_cons_succ])
            (try simp only [List.set_cons_succ, List.set_cons_zero])
            refine wpAnyH_take (i := 2) (v := ?_) rfl (by kernel_rfl) (by kernel_rfl) (by kernel_rfl) (fun _ _ _ h => h) (Or.inl ⟨by kernel_rfl, ?_⟩) (by assumption) ?_
            rotate_left
            · intro w hSw; (try dsimp only at hSw); (first | (go_simp; done) | (go_simp; with_reducible rfl))
            (try simp only [Act.put, List.getElem_toArray, List.getElem_cons_succ, List.getElem_cons_zero, List.setIfInBounds_toArray, List.set_cons_succ, List.set_cons_zero])
            refine wpAnyH_take (i := 39) (v := ?_) rfl (by kernel_rfl) (by kernel_rfl) (by kernel_rfl) (fun _ _ _ h => h) (Or.inl ⟨by kernel_rfl, ?_⟩) (by assumption) ?_
            rotate_left
            · intro w hSw; (try dsimp only at hSw); (first | (go_simp; done) | (go_simp; with_reducible rfl))
            (try simp only [Act.put, List.getElem_toArray, List.getElem_cons_succ, List.getElem_cons_zero, List.setIfInBounds_toArray, List.set_cons_succ, List.set_cons_zero])
            have HAL : Hid (Mod nil W (W.drew.drew.alloc (.cells #[.int .i64 N, .int .i64 B0, .int .i64 R2, .int .i64 A2, .int .i64 Q3, .int .i64 A5, .int .i64 Q4] 39))) := Lib.hid ((((Mod.refl nil W).drew).drew).alloc _)
            have HMA : Hid (Mod (fun k => k = hx + 1 ∨ hx + 4 ≤ k) W (W.drew.drew.alloc (.cells #[.int .i64 N, .int .i64 B0, .int .i64 R2, .int .i64 A2, .int .i64 Q3, .int .i64 A5, .int .i64 Q4] 39))) := Lib.hid HAL.out.ofNil
            have HKA : Hid (KeepsOthers W (W.drew.drew.alloc (.cells #[.int .i64 N, .int .i64 B0, .int .i64 R2, .int .i64 A2, .int .i64 Q3, .int .i64 A5, .int .i64 Q4] 39))) := Lib.hid (((KeepsOthers.drew W).trans (KeepsOthers.drew _)).trans (KeepsOthers.alloc _ _))
            have cl8 := cell_of (HAL.out.keep HBLN.out) 0
            simp only [List.getElem?_toArray, List.getElem?_cons_zero] at cl8
            have cl9 : (W.alloc (.cells #[.int .i64 N, .int .i64 B0, .int .i64 R2, .int .i64 A2, .int .i64 Q3, .int .i64 A5, .int .i64 Q4] 39)).cell? ⟨hx + 1, 0, none⟩ = some (.slice pv N cv) := cl8
            have HC1 := Lib.hid (cells_at W.drew.drew 39 [.int .i64 N, .int .i64 B0, .int .i64 R2, .int .i64 A2, .int .i64 Q3, .int .i64 A5, .int .i64 Q4] 1 1 _ rfl)
            refine wpAnyH_ready (rs := [40]) (by kernel_rfl) (by simp) ?_
            refine AllReadyH.cons (i := 40) rfl (fun K hK => ?_) AllReadyH.nil
            (try dsimp (config := { proj := false }) only [List.getElem_toArray, List.getElem_cons_succ, List.getElem_cons_zero])
            go_simp
            refine hK.out _ _ (HS.out _ HMA.out) (fun hHeld => ?_)
            clear hK K
            (try simp only [Act.put, List.setIfInBounds_toArray, List.set_cons_zero, List.set_cons_succ])
            (try simp only [List.set_cons_succ, List.set_cons_zero])
            refine wpAnyH_ready (rs := [41]) (by kernel_rfl) (by simp) ?_
            refine AllReadyH.cons (i := 41) rfl (fun K hK => ?_) AllReadyH.nil
            (try dsimp (config := { proj := false }) only [List.getElem_toArray, List.getElem_cons_succ, List.getElem_cons_zero])
            refine step_append_vec (S := fun k => (Value.slice pv N cv).ownBlock = some k) rfl (.tmp 28) (.tmp 68) 36 rfl 39 i0 (.agg #[.int .i64 0, .int .i64 0, .int .i64 0, .int .i64 0, .int .i64 0, .int .i64 0, .int .i64 0]) 7 56 Try.underlying36 HI0.out.1 HI0.out.2.1 HI0.out.2.2.1 HI0.out.2.2.2 rfl (by omega) (.slice pv N cv) N (trades TL) rfl (HVN.out.modNil HAL.out).own _ 1 [.int .i64 N, .int .i64 B0, .int .i64 R2, .int .i64 A2, .int .i64 Q3, .int .i64 A5, .int .i64 Q4] rfl HC1.out rfl (fun u hu => HONE.out u hu) (by unfold maxLen; omega) (by omega) ?_
            intro v7 w7 hv7 hm7
            obtain ⟨p7, q7, rfl⟩ := hv7.form
            have HV7 : Hid (IsVec (fun k => hx + 4 ≤ k) w7 39 7 (.slice p7 (N + 1) q7) (N + 1) (trades TL ++ [.int .i64 N, .int .i64 B0, .int .i64 R2, .int .i64 A2, .int .i64 Q3, .int .i64 A5, .int .i64 Q4])) := Lib.hid (hv7.mono (fun k _ hk => hk.elim (HVN.out.2 k) (fun h => Nat.le_trans HSZ.out (Nat.le_trans HAL.out.size h))))
            have HM7 := Lib.hid (HMA.out.trans hm7 (fun k _ hk => .inr (HVN.out.2 k hk)))
            have HK7 := Lib.hid (HKA.out.trans ((HVN.out.modNil HAL.out).others hm7))
            have HB7 := Lib.hid ((hm7.block (hx + 1) (heap_lt (HAL.out.keep HBLN.out)) (fun hk => by have := HVN.out.2 _ hk; omega)).trans (HAL.out.keep HBLN.out))
            clear hv7 hm7
            refine hK.out _ _ (HS.out _ HM7.out) (fun hHeld => ?_)
            clear hK K
            (try simp only [Act.put, List.setIfInBounds_toArray, List.set_cons_zero, List.set_cons_succ])
            (try simp only [List.set_cons_succ, List.set_cons_zero])
            refine wpAnyH_ready (rs := [42]) (by kernel_rfl) (by simp) ?_
            refine AllReadyH.cons (i := 42) rfl (fun K hK => ?_) AllReadyH.nil
            (try dsimp (config := { proj := false }) only [List.getElem_toArray, List.getElem_cons_succ, List.getElem_cons_zero])
            have cl7 := cell_of HB7.out 0
            have fl7 := free_of HB7.out 0
            have HB8 := Lib.hid (heap_setCell_same (off := 0) HB7.out (.slice p7 (N + 1) q7))
            have HM8 : Hid (Mod (fun k => k = hx + 1 ∨ hx + 4 ≤ k) W (w7.setCell ⟨hx + 1, 0, none⟩ (.slice p7 (N + 1) q7))) := Lib.hid (HM7.out.setCell _ _ (fun _ => .inl rfl))
            have HK8 := Lib.hid (HK7.out.trans (KeepsOthers.setCell w7 ⟨hx + 1, 0, none⟩ (.slice p7 (N + 1) q7)))
            have HV8 := Lib.hid (HV7.out.mod (T := fun k => k = hx + 1) ((Mod.refl _ w7).setCell ⟨hx + 1, 0, none⟩ (.slice p7 (N + 1) q7) (fun _ => rfl)) (fun k _ h1 h2 => by omega))
            simp only [List.getElem?_toArray, List.getElem?_cons_zero] at cl7
            go_simp
            refine hK.out _ _ (HS.out _ HM8.out) (fun hHeld => ?_)
            clear hK K
            (try simp only [Act.put, List.setIfInBounds_toArray, List.set_cons_zero, List.set_cons_succ])
            (try simp only [List.set_cons_succ, List.set_cons_zero])
            generalize World.setCell w7 _ _ = w8 at *
            refine wpAnyH_done (by kernel_rfl) ?_ _
            gi_wp2
            have hend := HEND.out w8 p7 q7 HK8.out HM8.out HB8.out HV8.out
            exact ⟨hend.1, HM8.out, hend.2.1, hend.2.2.1, hend.2.2.2.1, hend.2.2.2.2⟩
          refine AllReadyH.cons (i := 1) rfl (fun K hK => ?_) AllReadyH.nil
          (try dsimp (config := { proj := false }) only [List.getElem_toArray, List.getElem_cons_succ, List.getElem_cons_zero])
          go_simp
          refine hK.out _ _ (HS.out _ HMD.out) (fun hHeld => ?_)
          clear hK K
          (try simp only [Act.put, List.setIfInBounds_toArray, List.set_cons_zero, List.set_cons_succ])
          (try simp only [List.set_cons_succ, List.set_cons_zero])
          refine wpAnyH_take (i := 2) (v := ?_) rfl (by kernel_rfl) (by kernel_rfl) (by kernel_rfl) (fun _ _ _ h => h) (Or.inl ⟨by kernel_rfl, ?_⟩) (by assumption) ?_
          rotate_left
          · intro w hSw; (try dsimp only at hSw); (first | (go_simp; done) | (go_simp; with_reducible rfl))
          (try simp only [Act.put, List.getElem_toArray, List.getElem_cons_succ, List.getElem_cons_zero, List.setIfInBounds_toArray, List.set_cons_succ, List.set_cons_zero])
          refine wpAnyH_take (i := 39) (v := ?_) rfl (by kernel_rfl) (by kernel_rfl) (by kernel_rfl) (fun _ _ _ h => h) (Or.inl ⟨by kernel_rfl, ?_⟩) (by assumption) ?_
          rotate_left
          · intro w hSw; (try dsimp only at hSw); (first | (go_simp; done) | (go_simp; with_reducible rfl))
          (try simp only [Act.put, List.getElem_toArray, List.getElem_cons_succ, List.getElem_cons_zero, List.setIfInBounds_toArray, List.set_cons_succ, List.set_cons_zero])
          have HAL : Hid (Mod nil W (W.drew.drew.alloc (.cells #[.int .i64 N, .int .i64 B0, .int .i64 R2, .int .i64 A2, .int .i64 Q3, .int .i64 A5, .int .i64 Q4] 39))) := Lib.hid ((((Mod.refl nil W).drew).drew).alloc _)
          have HMA : Hid (Mod (fun k => k = hx + 1 ∨ hx + 4 ≤ k) W (W.drew.drew.alloc (.cells #[.int .i64 N, .int .i64 B0, .int .i64 R2, .int .i64 A2, .int .i64 Q3, .int .i64 A5, .int .i64 Q4] 39))) := Lib.hid HAL.out.ofNil
          have HKA : Hid (KeepsOthers W (W.drew.drew.alloc (.cells #[.int .i64 N, .int .i64 B0, .int .i64 R2, .int .i64 A2, .int .i64 Q3, .int .i64 A5, .int .i64 Q4] 39))) := Lib.hid (((KeepsOthers.drew W).trans (KeepsOthers.drew _)).trans (KeepsOthers.alloc _ _))
          have cl8 := cell_of (HAL.out.keep HBLN.out) 0
          simp only [List.getElem?_toArray, List.getElem?_cons_zero] at cl8
          have cl9 : (W.alloc (.cells #[.int .i64 N, .int .i64 B0, .int .i64 R2, .int .i64 A2, .int .i64 Q3, .int .i64 A5, .int .i64 Q4] 39)).cell? ⟨hx + 1, 0, none⟩ = some (.slice pv N cv) := cl8
          have HC1 := Lib.hid (cells_at W.drew.drew 39 [.int .i64 N, .int .i64 B0, .int .i64 R2, .int .i64 A2, .int .i64 Q3, .int .i64 A5, .int .i64 Q4] 1 1 _ rfl)
          refine wpAnyH_ready (rs := [0, 40]) (by kernel_rfl) (by simp) ?_
          refine AllReadyH.cons (i := 0) rfl (fun K hK => ?_) ?_
          · (try dsimp (config := { proj := false }) only [List.getElem_toArray, List.getElem_cons_succ, List.getElem_cons_zero])
            go_simp
            refine hK.out _ _ (HS.out _ HMD.out) (fun hHeld => ?_)
            clear hK K
            (try simp only [Act.put, List.setIfInBounds_toArray, List.set_cons_zero, List.set_cons_succ])
            (try simp only [List.set_cons_succ, List.set_cons_zero])
            refine wpAnyH_ready (rs := [40]) (by kernel_rfl) (by simp) ?_
            refine AllReadyH.cons (i := 40) rfl (fun K hK => ?_) AllReadyH.nil
            (try dsimp (config := { proj := false }) only [List.getElem_toArray, List.getElem_cons_succ, List.getElem_cons_zero])
            go_simp
            refine hK.out _ _ (HS.out _ HMA.out) (fun hHeld => ?_)
            clear hK K
            (try simp only [Act.put, List.setIfInBounds_toArray, List.set_cons_zero, List.set_cons_succ])
            (try simp only [List.set_cons_succ, List.set_cons_zero])
            refine wpAnyH_ready (rs := [41]) (by kernel_rfl) (by simp) ?_
            refine AllReadyH.cons (i := 41) rfl (fun K hK => ?_) AllReadyH.nil
            (try dsimp (config := { proj := false }) only [List.getElem_toArray, List.getElem_cons_succ, List.getElem_cons_zero])
            refine step_append_vec (S := fun k => (Value.slice pv N cv).ownBlock = some k) rfl (.tmp 28) (.tmp 68) 36 rfl 39 i0 (.agg #[.int .i64 0, .int .i64 0, .int .i64 0, .int .i64 0, .int .i64 0, .int .i64 0, .int .i64 0]) 7 56 Try.underlying36 HI0.out.1 HI0.out.2.1 HI0.out.2.2.1 HI0.out.2.2.2 rfl (by omega) (.slice pv N cv) N (trades TL) rfl (HVN.out.modNil HAL.out).own _ 1 [.int .i64 N, .int .i64 B0, .int .i64 R2, .int .i64 A2, .int .i64 Q3, .int .i64 A5, .int .i64 Q4] rfl HC1.out rfl (fun u hu => HONE.out u hu) (by unfold maxLen; omega) (by omega) ?_
            intro v7 w7 hv7 hm7
            obtain ⟨p7, q7, rfl⟩ := hv7.form
            have HV7 : Hid (IsVec (fun k => hx + 4 ≤ k) w7 39 7 (.slice p7 (N + 1) q7) (N + 1) (trades TL ++ [.int .i64 N, .int .i64 B0, .int .i64 R2, .int .i64 A2, .int .i64 Q3, .int .i64 A5, .int .i64 Q4])) := Lib.hid (hv7.mono (fun k _ hk => hk.elim (HVN.out.2 k) (fun h => Nat.le_trans HSZ.out (Nat.le_trans HAL.out.size h))))
            have HM7 := Lib.hid (HMA.out.trans hm7 (fun k _ hk => .inr (HVN.out.2 k hk)))
            have HK7 := Lib.hid (HKA.out.trans ((HVN.out.modNil HAL.out).others hm7))
            have HB7 := Lib.hid ((hm7.block (hx + 1) (heap_lt (HAL.out.keep HBLN.out)) (fun hk => by have := HVN.out.2 _ hk; omega)).trans (HAL.out.keep HBLN.out))
            clear hv7 hm7
            refine hK.out _ _ (HS.out _ HM7.out) (fun hHeld => ?_)
            clear hK K
            (try simp only [Act.put, List.setIfInBounds_toArray, List.set_cons_zero, List.set_cons_succ])
            (try simp only [List.set_cons_succ, List.set_cons_zero])
            refine wpAnyH_ready (rs := [42]) (by kernel_rfl) (by simp) ?_
            refine AllReadyH.cons (i := 42) rfl (fun K hK => ?_) AllReadyH.nil
            (try dsimp (config := { proj := false }) only [List.getElem_toArray, List.getElem_cons_succ, List.getElem_cons_zero])
            have cl7 := cell_of HB7.out 0
            have fl7 := free_of HB7.out 0
            have HB8 := Lib.hid (heap_setCell_same (off := 0) HB7.out (.slice p7 (N + 1) q7))
            have HM8 : Hid (Mod (fun k => k = hx + 1 ∨ hx + 4 ≤ k) W (w7.setCell ⟨hx + 1, 0, none⟩ (.slice p7 (N + 1) q7))) := Lib.hid (HM7.out.setCell _ _ (fun _ => .inl rfl))
            have HK8 := Lib.hid (HK7.out.trans (KeepsOthers.setCell w7 ⟨hx + 1, 0, none⟩ (.slice p7 (N + 1) q7)))
            have HV8 := Lib.hid (HV7.out.mod (T := fun k => k = hx + 1) ((Mod.refl _ w7).setCell ⟨hx + 1, 0, none⟩ (.slice p7 (N + 1) q7) (fun _ => rfl)) (fun k _ h1 h2 => by omega))
            simp only [List.getElem?_toArray, List.getElem?_cons_zero] at cl7
            go_simp
            refine hK.out _ _ (HS.out _ HM8.out) (fun hHeld => ?_)
            clear hK K
            (try simp only [Act.put, List.setIfInBounds_toArray, List.set_cons_zero, List.set_cons_succ])
            (try simp only [List.set_cons_succ, List.set_cons_zero])
            generalize World.setCell w7 _ _ = w8 at *
            refine wpAnyH_done (by kernel_rfl) ?_ _
            gi_wp2
            have hend := HEND.out w8 p7 q7 HK8.out HM8.out HB8.out HV8.out
            exact ⟨hend.1, HM8.out, hend.2.1, hend.2.2.1, hend.2.2.2.1, hend.2.2.2.2⟩
          refine AllReadyH.cons (i := 40) rfl (fun K hK => ?_) AllReadyH.nil
          (try dsimp (config := { proj := false }) only [List.getElem_toArray, List.getElem_cons_succ, List.getElem_cons_zero])
          go_simp
          refine hK.out _ _ (HS.out _ HMA.out) (fun hHeld => ?_)
          clear hK K
          (try simp only [Act.put, List.setIfInBounds_toArray, List.set_cons_zero, List.set_cons_succ])
          (try simp only [List.set_cons_succ, List.set_cons_zero])
          refine wpAnyH_ready (rs := [0]) (by kernel_rfl) (by simp) ?_
          refine AllReadyH.cons (i := 0) rfl (fun K hK => ?_) AllReadyH.nil
          (try dsimp (config := { proj := false }) only [List.getElem_toArray, List.getElem_cons_succ, List.getElem_cons_zero])
          go_simp
          refine hK.out _ _ (HS.out _ HMA.out) (fun hHeld => ?_)
          clear hK K
          (try simp only [Act.put, List.setIfInBounds_toArray, List.set_cons_zero, List.set_cons_succ])
          (try simp only [List.set_cons_succ, List.set_cons_zero])
          refine wpAnyH_ready (rs := [41]) (by kernel_rfl) (by simp) ?_
          refine AllReadyH.cons (i := 41) rfl (fun K hK => ?_) AllReadyH.nil
          (try dsimp (config := { proj := false }) only [List.getElem_toArray, List.getElem_cons_succ, List.getElem_cons_zero])
          refine step_append_vec (S := fun k => (Value.slice pv N cv).ownBlock = some k) rfl (.tmp 28) (.tmp 68) 36 rfl 39 i0 (.agg #[.int .i64 0, .int .i64 0, .int .i64 0, .int .i64 0, .int .i64 0, .int .i64 0, .int .i64 0]) 7 56 Try.underlying36 HI0.out.1 HI0.out.2.1 HI0.out.2.2.1 HI0.out.2.2.2 rfl (by omega) (.slice pv N cv) N (trades TL) rfl (HVN.out.modNil HAL.out).own _ 1 [.int .i64 N, .int .i64 B0, .int .i64 R2, .int .i64 A2, .int .i64 Q3, .int .i64 A5, .int .i64 Q4] rfl HC1.out rfl (fun u hu => HONE.out u hu) (by unfold maxLen; omega) (by omega) ?_
          intro v7 w7 hv7 hm7
          obtain ⟨p7, q7, rfl⟩ := hv7.form
          have HV7 : Hid (IsVec (fun k => hx + 4 ≤ k) w7 39 7 (.slice p7 (N + 1) q7) (N + 1) (trades TL ++ [.int .i64 N, .int .i64 B0, .int .i64 R2, .int .i64 A2, .int .i64 Q3, .int .i64 A5, .int .i64 Q4])) := Lib.hid (hv7.mono (fun k _ hk => hk.elim (HVN.out.2 k) (fun h => Nat.le_trans HSZ.out (Nat.le_trans HAL.out.size h))))
          have HM7 := Lib.hid (HMA.out.trans hm7 (fun k _ hk => .inr (HVN.out.2 k hk)))
          have HK7 := Lib.hid (HKA.out.trans ((HVN.out.modNil HAL.out).others hm7))
          have HB7 := Lib.hid ((hm7.block (hx + 1) (heap_lt (HAL.out.keep HBLN.out)) (fun hk => by have := HVN.out.2 _ hk; omega)).trans (HAL.out.keep HBLN.out))
          clear hv7 hm7
          refine hK.out _ _ (HS.out _ HM7.out) (fun hHeld => ?_)
          clear hK K
          (try simp only [Act.put, List.setIfInBounds_toArray, List.set_cons_zero, List.set_cons_succ])
          (try simp only [List.set_cons_succ, List.set_cons_zero])
          refine wpAnyH_ready (rs := [42]) (by kernel_rfl) (by simp) ?_
          refine AllReadyH.cons (i := 42) rfl (fun K hK => ?_) AllReadyH.nil
          (try dsimp (config := { proj := false }) only [List.getElem_toArray, List.getElem_cons_succ, List.getElem_cons_zero])
          have cl7 := cell_of HB7.out 0
          have fl7 := free_of HB7.out 0
          have HB8 := Lib.hid (heap_setCell_same (off := 0) HB7.out (.slice p7 (N + 1) q7))
          have HM8 : Hid (Mod (fun k => k = hx + 1 ∨ hx + 4 ≤ k) W (w7.setCell ⟨hx + 1, 0, none⟩ (.slice p7 (N + 1) q7))) := Lib.hid (HM7.out.setCell _ _ (fun _ => .inl rfl))
          have HK8 := Lib.hid (HK7.out.trans (KeepsOthers.setCell w7 ⟨hx + 1, 0, none⟩ (.slice p7 (N + 1) q7)))
          have HV8 := Lib.hid (HV7.out.mod (T := fun k => k = hx + 1) ((Mod.refl _ w7).setCell ⟨hx + 1, 0, none⟩ (.slice p7 (N + 1) q7) (fun _ => rfl)) (fun k _ h1 h2 => by omega))
          simp only [List.getElem?_toArray, List.getElem?_cons_zero] at cl7
          go_simp
          refine hK.out _ _ (HS.out _ HM8.out) (fun hHeld => ?_)
          clear hK K
          (try simp only [Act.put, List.setIfInBounds_toArray, List.set_cons_zero, List.set_cons_succ])
          (try simp only [List.set_cons_succ, List.set_cons_zero])
          generalize World.setCell w7 _ _ = w8 at *
          refine wpAnyH_done (by kernel_rfl) ?_ _
          gi_wp2
          have hend := HEND.out w8 p7 q7 HK8.out HM8.out HB8.out HV8.out
          exact ⟨hend.1, HM8.out, hend.2.1, hend.2.2.1, hend.2.2.2.1, hend.2.2.2.2⟩
--R8END
      · obtain ⟨E, hE⟩ : ∃ E, L - i = E := ⟨_, rfl⟩
        have hE5 : E < 5 := by omega
        have hch : chunkAt g o L 5 x.val = .slice (some ⟨g, o + i, none⟩) E E := by unfold chunkAt; rw [HI.out, show min 5 (L - i) = E by omega]
        clear hE
        gi_wp2
        have h := HFIN.out W rfl
        have h' := h.2 (.inl (by have := HI.out; omega))
        exact ⟨h.1, rfl, h'.2⟩
    case done =>
      rintro D ys W hD hys ⟨h200, hall, ⟨p, c, hb, hv⟩, hm⟩ hK
      subst hfr
      rw [trades_done b nn HLB.out hn ys hys h200 hall] at hb hv
      obtain ⟨NA, hNA⟩ : ∃ NA, (tradesAll b nn).length = NA := ⟨_, rfl⟩
      have hput : Mod (· = D) W (W.putObj D (.deferred none)) := mod_putObj W D _ rfl
      have hvf : IsVec (fun k => w.heap.size ≤ k) (W.putObj D (.deferred none)) 39 7 (.slice p (tradesAll b nn).length c) (tradesAll b nn).length (trades (tradesAll b nn)) := (hv.modCells hput (fun k o ho hc hk => by rw [hk.1, hK] at ho; cases ho; cases hc)).mono (fun k _ hk => by have := HZ.out; omega)
      have hmf : Mod nil w (W.putObj D (.deferred none)) := (HM9.out.trans hm (fun k hk h => by have := HZ.out; omega)).trans hput (fun k hk h => by have := HM9.out.size; omega)
      have HF : Hid (Post (.returned (.slice p NA c)) (W.putObj D (.deferred none))) := Lib.hid (HPOST.out _ _ ⟨_, by rw [← hNA], hvf, hmf⟩)
      rw [hNA] at hb
      have cl := cell_of hb 0
      simp only [List.getElem?_toArray, List.getElem?_cons_zero] at cl
      have HK := Lib.hid hK
      clear hys h200 hall hb hv hm hK hNA hput hvf hmf
      go_wp2_with fail
      refine ⟨by simp, .inl ⟨_, _, rfl, run_takeDeferred HK.out, ?_⟩⟩
      refine ⟨_, results_tmp rfl _ _ _, ?_⟩
      exact HF.out
    case stop =>
      rintro D cc pre W hD ⟨k, hk, hys⟩ ⟨rfl, pre', x, rfl, hd, h200, hall, ⟨p, c, hb, hv⟩, hm⟩ hK
      subst hfr
      rw [trades_stop b nn HLB.out hn pre' x k hys hd h200 hall] at hb hv
      obtain ⟨NA, hNA⟩ : ∃ NA, (tradesAll b nn).length = NA := ⟨_, rfl⟩
      have hput : Mod (· = D) W (W.putObj D (.deferred none)) := mod_putObj W D _ rfl
      have hvf : IsVec (fun k => w.heap.size ≤ k) (W.putObj D (.deferred none)) 39 7 (.slice p (tradesAll b nn).length c) (tradesAll b nn).length (trades (tradesAll b nn)) := (hv.modCells hput (fun k o ho hc hk => by rw [hk.1, hK] at ho; cases ho; cases hc)).mono (fun k _ hk => by have := HZ.out; omega)
      have hmf : Mod nil w (W.putObj D (.deferred none)) := (HM9.out.trans hm (fun k hk h => by have := HZ.out; omega)).trans hput (fun k hk h => by have := HM9.out.size; omega)
      have HF : Hid (Post (.returned (.slice p NA c)) (W.putObj D (.deferred none))) := Lib.hid (HPOST.out _ _ ⟨_, by rw [← hNA], hvf, hmf⟩)
      rw [hNA] at hb
      have cl := cell_of hb 0
      simp only [List.getElem?_toArray, List.getElem?_cons_zero] at cl
      have HK := Lib.hid hK
      clear hys h200 hall hb hv hm hK hNA hput hvf hmf hd hk
      refine wpIn_exit ?_
      go_wp2_with fail
      refine ⟨by simp, .inl ⟨_, _, rfl, run_takeDeferred HK.out, ?_⟩⟩
      refine ⟨_, results_tmp rfl _ _ _, ?_⟩
      exact HF.out
  · have HF : Hid (∀ w', Mod nil w w' → Post (.returned (.slice none 0 0)) w') := Lib.hid (fun w' m => HPOST.out _ _ ⟨_, rfl, by unfold tradesAll; rw [if_neg hn]; exact IsVec.nil _ _ _ _, m⟩)
    go_upto_region 2 with (fail)
    obtain ⟨hx, hhx⟩ : ∃ hx, w.heap.size = hx := ⟨_, rfl⟩
    generalize hw1 : World.alloc (World.alloc _ _) _ = w1
    have hm1 : Mod nil w w1 := by rw [← hw1]; exact ((Mod.refl _ _).alloc _).alloc _
    have hbn : w1.heap[hx]? = some (.cells #[.int .i64 n] 3 (0, 0)) := by rw [← hw1]; exact heap_alloc_old (by rw [← hhx]; exact heap_alloc_new _ _)
    have cn := cell_of hbn 0
    simp only [List.getElem?_toArray, List.getElem?_cons_zero] at cn
    rw [hhx]
    have HM1 := Lib.hid hm1
    clear hw1 hm1 hbn hhx
    go_wp2_with fail
    refine (taleMay n w1).mono ?_
    rw [decide_eq_false hn]
    rintro e w2 ⟨rfl, rfl⟩
    clear cn
    go_wp2_with fail
    refine ⟨_, results_tmp rfl _ _ _, ?_⟩
    exact HF.out _ HM1.out
end Go.Proofs.Ytlkhihdgaimboaa

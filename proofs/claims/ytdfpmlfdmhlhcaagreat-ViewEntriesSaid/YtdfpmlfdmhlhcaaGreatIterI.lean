/- slices.Values, AppendSeq, Collect, Sorted at ints. -/
import Derived.Test.YtdfpmlfdmhlhcaaGreatOverFn
import Derived.Test.YtdfpmlfdmhlhcaaGreatIds
import Derived.Test.YtdfpmlfdmhlhcaaGreatStep
namespace Go.Proofs.YtdfpmlfdmhlhcaaGreat
open Go.RowKit Go.Shelf
attribute [local go_sem] Oper.semAt_some

theorem info_int : (Tryz.prog.info? 3).map (fun i => (i.zero, i.size, i.bytes)) = some (some (.int .i64 0), 1, 8) := by kernel_rfl
set_option maxRecDepth 100000 in
set_option maxHeartbeats 2000000 in
theorem values1_in (n : Nat) (hn : 1 ≤ n) (l Bs n0 : Nat) (p : Option Addr) (cap : Nat) (zs : List Int) (hp : ∀ j, j < zs.length → ∃ b off, p = some ⟨b, off, none⟩ ∧ b < n0) (J Jx : List Int → World → Prop)
    (hY : ∀ pre x W, J pre W → pre.length < zs.length → YieldAt Fence.wide (n - 1) Tryz.prog l #[.int .i64 x] W fun e W' =>
      (e = .returned (.bool true) ∧ J (pre ++ [x]) W' ∧ Mod (fun k => n0 ≤ k) W W') ∨ (e = .returned (.bool false) ∧ Jx (pre ++ [x]) W'))
    (W : World) (hBs : W.cell? ⟨Bs, 0, none⟩ = some (.slice p zs.length cap)) (hc : ∀ j, j < zs.length → ∃ b off, p = some ⟨b, off, none⟩ ∧ W.cell? ⟨b, off + j, none⟩ = some (.int .i64 (zs.getD j 0))) (h0 : J [] W) (hlz : zs.length ≤ 1000000) :
    CallsIn Fence.wide n Tryz.prog 185 #[.func (.yield l) #[] #[], .pointer (some ⟨Bs, 0, none⟩)] W fun e W' => (∃ v, e = .returned v) ∧
      ((∃ ys, ys = zs ∧ J ys W') ∨ (∃ pre, pre <+: zs ∧ Jx pre W')) := by
  refine callsIn_of_wp Tryz.func185 rfl trivial ?_ rfl
  simp only [Tryz.ntmps185, List.size_toArray, List.length_cons, List.length_nil, Nat.reduceAdd, Nat.reduceSub, Array.replicate_succ, Array.replicate_zero, List.push_toArray, List.append_toArray, List.nil_append, List.cons_append]
  obtain ⟨len, hlen⟩ : ∃ len, zs.length = len := ⟨_, rfl⟩
  rw [hlen] at hBs hlz
  have HLEN := Lib.hid hlen
  have HC := Lib.hid hc
  have HP := Lib.hid hp
  have HY := Lib.hid hY
  clear hc hlen hp hY
  gi_wp2
  gi_loopw [7] (fun i wr => ∃ k : Nat, k ≤ len ∧ i = .int .i64 k ∧ J (zs.take k) wr ∧ Hid (Mod (fun k => n0 ≤ k) W wr))
    (fun i _ => len - (intOf i).toNat)
  case atStart => exact ⟨0, Nat.zero_le _, rfl, h0, Lib.hid (Mod.refl _ _)⟩
  case round =>
    obtain ⟨k, hk, rfl, hJs, hnx⟩ := hrel
    by_cases hlt : k < len
    · obtain ⟨x, hx⟩ : ∃ x, zs.getD k 0 = x := ⟨_, rfl⟩
      obtain ⟨b, off, rfl, hb⟩ := HP.out k (by rw [HLEN.out]; exact hlt)
      obtain ⟨b', off', hbo, hcell⟩ := HC.out k (by rw [HLEN.out]; exact hlt)
      simp only [Option.some.injEq, Addr.mk.injEq, and_true] at hbo
      obtain ⟨rfl, rfl⟩ := hbo
      rw [hx] at hcell
      have hcx := cell_kept hcell hnx.out (World.block_lt_of_cell? _ _ hcell) (by omega)
      have HT : Hid (zs.take (k + 1) = zs.take k ++ [x]) := Lib.hid (by
        rw [List.take_succ_eq_append_getElem (by rw [HLEN.out]; exact hlt), ← hx, List.getD_eq_getElem?_getD, List.getElem?_eq_getElem (by rw [HLEN.out]; exact hlt)]; rfl)
      obtain ⟨fn, tmps, assign, body, hy, hR⟩ := HY.out _ x wr hJs (by rw [List.length_take, HLEN.out]; omega)
      clear hcell hx
      gi_wp2
      refine hR.mono ?_
      rintro e W3 (⟨rfl, hJ3, hk3⟩ | ⟨rfl, hJx3⟩)
      · gi_wp2
        go_roundw
        case rel => exact ⟨k + 1, by omega, by simp, by rw [HT.out]; exact hJ3, Lib.hid (hnx.out.trans hk3 (fun _ _ h => h))⟩
        case measure => simp [intOf]; omega
      · gi_wp2
        refine bodyPost_ret (results_none rfl _ _ _) rfl ?_
        exact ⟨⟨_, rfl⟩, .inr ⟨_, by rw [← HT.out]; exact List.take_prefix _ _, hJx3⟩⟩
    · obtain rfl : k = len := by omega
      rw [List.take_of_length_le (by rw [HLEN.out]; exact Nat.le_refl _)] at hJs
      gi_wp2
      go_end0
      exact ⟨⟨_, rfl⟩, .inl ⟨_, rfl, hJs⟩⟩
theorem values_call (a : Option Addr) (len cap : Nat) (w : World) :
    Calls Tryz.prog 140 #[.slice a len cap] w fun e w' => e = .returned (.func (.func 185) #[] #[.pointer (some ⟨w.heap.size, 0, none⟩)]) ∧ w' = w.alloc (.cells #[.slice a len cap] 22) := by
  have hmf : ∀ (fn : Fn) (first cap : Array Value) (w : World), (Instr.makeFunc fn first cap).run Tryz.prog w = .ok (.func fn first cap) w := fun _ _ _ _ => rfl
  go_enter Tryz.func140, Tryz.ntmps140
  go_wp2_with fail
  go_ret
  exact ⟨rfl, rfl⟩
theorem values_stops (n : Nat) (hn : 1 ≤ n) (Bs n0 : Nat) (T : Nat → Prop) (p : Option Addr) (cap : Nat) (zs : List Int) (w : World) (hBs : w.cell? ⟨Bs, 0, none⟩ = some (.slice p zs.length cap)) (hrow : IsRow T w (.slice p zs.length cap) (zs.map (.int .i64))) (hT : ∀ k, T k → k < n0) (hlz : zs.length ≤ 1000000) :
    SeqStopsK Fence.wide n Tryz.prog 185 #[.pointer (some ⟨Bs, 0, none⟩)] (fun x : Int => #[Value.int .i64 x]) (Mod (fun k => n0 ≤ k)) (fun ys => ys = zs) (fun pre => pre <+: zs) zs.length w := fun l J Jx W hW _ _ hY h0 => by
  have hc' := (hW.cell (p := ⟨Bs, 0, none⟩) (World.block_lt_of_cell? _ _ hBs)).trans hBs
  obtain ⟨p', c', he, hcc⟩ := hrow
  simp only [Value.slice.injEq, List.length_map] at he
  obtain ⟨rfl, -, rfl⟩ := he
  have hrows : ∀ j, j < zs.length → ∃ b off, p = some ⟨b, off, none⟩ ∧ b < n0 ∧ b < w.heap.size ∧ w.cell? ⟨b, off + j, none⟩ = some (.int .i64 (zs.getD j 0)) := fun j hj => by
    obtain ⟨b, off, h1, h2, h3, h4⟩ := hcc j (by rw [List.length_map]; exact hj)
    exact ⟨b, off, h1, hT b h2, h3, by rw [h4]; simp [hj]⟩
  exact values1_in n hn l Bs n0 p cap zs (fun j hj => by obtain ⟨b, off, h1, h2, -⟩ := hrows j hj; exact ⟨b, off, h1, h2⟩) J Jx hY W hc' (fun j hj => by
    obtain ⟨b, off, h1, h2, h3, h4⟩ := hrows j hj
    exact ⟨b, off, h1, (hW.cell (p := ⟨b, off + j, none⟩) h3).trans h4⟩) h0 hlz
set_option maxRecDepth 100000 in
set_option maxHeartbeats 2000000 in
/-- slices.AppendSeq(nil, slices.Values(..)) -/
theorem appendSeqI (Bs : Nat) (T : Nat → Prop) (p : Option Addr) (cap : Nat) (zs : List Int) (w : World) (hBs : w.cell? ⟨Bs, 0, none⟩ = some (.slice p zs.length cap)) (hrow : IsRow T w (.slice p zs.length cap) (zs.map (.int .i64))) (hl : zs.length ≤ 1000000) :
    Calls Tryz.prog 204 #[.slice none 0 0, .func (.func 185) #[] #[.pointer (some ⟨Bs, 0, none⟩)]] w fun e w' => ∃ v, e = .returned v ∧ IsVec (fun k => w.heap.size ≤ k) w' 3 1 v zs.length (zs.map (.int .i64)) ∧ Mod nil w w' := by
  refine (?_ : ∀ Post : Ending → World → Prop, Hid (∀ e w', (∃ v, e = .returned v ∧ IsVec (fun k => w.heap.size ≤ k) w' 3 1 v zs.length (zs.map (.int .i64)) ∧ Mod nil w w') → Post e w') → Calls Tryz.prog 204 #[.slice none 0 0, .func (.func 185) #[] #[.pointer (some ⟨Bs, 0, none⟩)]] w Post) _ (Lib.hid (fun _ _ h => h))
  intro Post HPOST
  refine calls_over Tryz.func204 rfl ?_
  simp only [Tryz.ntmps204, List.size_toArray, List.length_cons, List.length_nil, Nat.reduceAdd, Nat.reduceSub, Array.replicate_succ, Array.replicate_zero, List.push_toArray, List.append_toArray, List.nil_append, List.cons_append]
  obtain ⟨i0, hi0, hz0, hz1, hz2⟩ := info_parts info_int
  obtain ⟨hx, hhx⟩ : ∃ hx, w.heap.size = hx := ⟨_, rfl⟩
  have HROW := Lib.hid hrow
  have HBS := Lib.hid hBs
  clear hrow hBs
  go_upto_region 1 with (fail)
  generalize hw1 : World.alloc _ _ = w1
  have hm1 : Mod nil w w1 := by rw [← hw1]; exact (Mod.refl _ _).alloc _
  have hbl : w1.heap[hx]? = some (.cells #[.slice none 0 0] 22 (0, 0)) := by rw [← hw1, ← hhx]; exact heap_alloc_new _ _
  have hs1 : w1.heap.size = hx + 1 := by rw [← hw1]; simp [hhx]
  have hcs := values_stops 8 (by omega) Bs hx (fun k => T k ∧ k < w.heap.size) p cap zs w1 (cell_kept HBS.out hm1 (World.block_lt_of_cell? _ _ HBS.out) (not_nil _)) (HROW.out.here.modNil hm1) (fun k h => by have := h.2; omega) hl
  have HCS := Lib.hid hcs
  have HM1 := Lib.hid hm1
  have HZ := Lib.hid hhx
  (try rw [hhx])
  clear hw1 hm1 hcs hhx HBS HROW
  go_wp2_with fail
  refine (wpIn_wide (n := 9)).1 ?_
  generalize hfr : Act.mk _ _ = fr
  refine wpIn_rangeFunc_ownF (hro := rfl) (h1 := by omega) (gf := 185) (lb := #[.pointer (some ⟨Bs, 0, none⟩)]) (by rw [← hfr]; rfl) trivial (enters_of Tryz.func185 (by kernel_rfl) rfl) HCS.out (fun h k => h.trans k (fun _ _ h => h)) (fun W l o o' hl _ _ _ => mod_putObj W l o' (by omega)) (Below.refl _ _) (fun _ => rfl)
    (fun pre W => (∃ q c, W.heap[hx]? = some (.cells #[.slice q pre.length c] 22 (0, 0)) ∧ IsVec (fun k => hx + 1 ≤ k) W 3 1 (.slice q pre.length c) pre.length (pre.map (.int .i64))) ∧ Mod (fun k => hx ≤ k) w1 W)
    (fun _ _ _ => False)
    ?hI ?hIx ?h0 (fun x => ⟨(fr.tmps.setIfInBounds 7 (.int .i64 x)).setIfInBounds 5 (.int .i64 x), []⟩) ?assign ?body ?done ?stop
  case hI =>
    exact ownFrom_cells (fun pre X Y h m => by
      obtain ⟨⟨q, c, h2, h3⟩, h4⟩ := h
      refine ⟨⟨q, c, (m.block hx (heap_lt h2) (fun hk => by omega)).trans h2, h3.modCells m (fun k o ho hc hk => by obtain ⟨⟨_, o', ho', hc'⟩, _⟩ := hk; rw [ho] at ho'; cases ho'; rw [hc] at hc'; cases hc')⟩, h4.trans m (fun k _ hk => by omega)⟩)
  case hIx => exact fun c => ownFrom_cells (fun pre X Y h m => h.elim)
  case h0 => exact ⟨⟨none, 0, hbl, IsVec.nil _ _ _ _⟩, Mod.refl _ _⟩
  case assign =>
    intro l x W K hK
    subst hfr
    gi_wp2
    exact hK
  case body =>
    rintro lq pre x W ⟨⟨q, c, hb, hv⟩, hm⟩ hlen
    subst hfr
    simp only [List.setIfInBounds_toArray, List.set_cons_succ, List.set_cons_zero]
    have hcl := cell_of hb 0
    have hfr := free_of hb 0
    simp only [List.getElem?_toArray, List.getElem?_cons_zero] at hcl
    obtain ⟨N, hN⟩ : ∃ N, pre.length = N := ⟨_, rfl⟩
    obtain ⟨g2, hg2⟩ : ∃ g2, W.heap.size = g2 := ⟨_, rfl⟩
    rw [hN] at hcl hv hb hlen
    have hma : Mod nil W (W.alloc (.cells #[.int .i64 x] 3)) := (Mod.refl _ _).alloc _
    have hWs : hx + 1 ≤ W.heap.size := by have := hm.size; omega
    obtain ⟨v8, w8, hrun8, hv8, hm8⟩ := vec_append (P := Tryz.prog) 22 22 3 i0 _ 1 8 Tryz.underlying22 hi0 hz0 hz1 hz2 rfl (by omega) (hv.own.modNil hma) (cells_one_at W 3 (.int .i64 x) g2 hg2) rfl (by intro u hu; rw [List.mem_singleton.1 hu]; rfl) (by unfold maxLen; omega) (by omega)
    obtain ⟨p8, c8, rfl⟩ := hv8.form
    have hxs : hx < W.heap.size := heap_lt hb
    have hb8 : w8.heap[hx]? = some (.cells #[.slice q N c] 22 (0, 0)) := (hm8.block hx (Nat.lt_of_lt_of_le hxs hma.size) (fun h => by have := hv.2 _ h; omega)).trans (hma.keep hb)
    have hfr8 := free_of hb8 0
    have hcl8 := cell_of hb8 0
    simp only [List.getElem?_toArray, List.getElem?_cons_zero] at hcl8
    have hH8 : Hid (∀ W', W' = w8.setCell ⟨hx, 0, none⟩ (.slice p8 (N + 1) c8) → KeepsOthers W W' ∧ Mod (fun k => hx ≤ k) W W' ∧ ((∃ q c, W'.heap[hx]? = some (.cells #[.slice q (pre ++ [x]).length c] 22 (0, 0)) ∧ IsVec (fun k => hx + 1 ≤ k) W' 3 1 (.slice q (pre ++ [x]).length c) (pre ++ [x]).length ((pre ++ [x]).map (.int .i64))) ∧ Mod (fun k => hx ≤ k) w1 W')) := Lib.hid (fun W' e => by
      have ms : Mod (· = hx) w8 W' := by rw [e]; exact (Mod.refl _ _).setCell _ _ (fun _ => rfl)
      have mt : Mod (fun k => k = hx ∨ (Value.slice q N c).ownBlock = some k) W W' := ((hma.ofNil.trans hm8 (fun _ _ h => .inr h)).trans ms (fun _ _ h => .inl h))
      have mk : Mod (fun k => hx ≤ k) W W' := mt.mono (fun k _ h => h.elim (fun h => by omega) (fun h => by have := hv.2 _ h; omega))
      have hlen2 : (pre ++ [x]).length = N + 1 := by rw [List.length_append, hN]; rfl
      refine ⟨keepsOthers_of mt (fun k o hk ho => ?_), mk, ⟨p8, c8, ?_, ?_⟩, hm.trans mk (fun _ _ h => h)⟩
      · rcases hk with rfl | hk
        · rw [hb] at ho; cases ho; rfl
        · exact hv.ownCells hk ho
      · rw [e, heap_setCell_same hb8, hlen2]; rfl
      · rw [hlen2, List.map_append]
        refine (hv8.mod ms (fun k _ hk e => ?_)).mono (fun k _ hk => ?_)
        · rcases hk with hk | hk
          · have := hv.2 _ hk; omega
          · have := hma.size; omega
        · rcases hk with hk | hk
          · exact hv.2 _ hk
          · have := hma.size; omega)
    have HRUN := Lib.hid hrun8
    clear hrun8 hv8 hm8 hv hma hm hb hN
    gi_wp2_with (first | (gi_at_builtin; refine wpListIn_append_run rfl _ _ _ _ rfl rfl rfl HRUN.out ?_))
    exact hH8.out _ rfl
  case done =>
    rintro D ys W hD rfl ⟨⟨q, c, hb, hv⟩, hm⟩ hK
    subst hfr
    obtain ⟨N, hN⟩ : ∃ N, ys.length = N := ⟨_, rfl⟩
    have hput : Mod (· = D) W (W.putObj D (.deferred none)) := mod_putObj W D _ rfl
    have hvf : IsVec (fun k => w.heap.size ≤ k) (W.putObj D (.deferred none)) 3 1 (.slice q ys.length c) ys.length (ys.map (.int .i64)) := (hv.modCells hput (fun k o ho hc hk => by rw [hk.1, hK] at ho; cases ho; cases hc)).mono (fun k _ hk => by have := HZ.out; omega)
    have hmf : Mod nil w (W.putObj D (.deferred none)) := (HM1.out.trans hm (fun k hk h => by have := HZ.out; omega)).trans hput (fun k hk h => by have := HM1.out.size; omega)
    have HF : Hid (Post (.returned (.slice q N c)) (W.putObj D (.deferred none))) := Lib.hid (HPOST.out _ _ ⟨_, by rw [← hN], hvf, hmf⟩)
    rw [hN] at hb
    have cl := cell_of hb 0
    simp only [List.getElem?_toArray, List.getElem?_cons_zero] at cl
    have HK := Lib.hid hK
    clear hb hv hm hK hN hput hvf hmf
    go_wp2_with fail
    refine ⟨by simp, .inl ⟨_, _, rfl, run_takeDeferred HK.out, ?_⟩⟩
    refine ⟨_, results_tmp rfl _ _ _, ?_⟩
    exact HF.out
  case stop => exact fun D cc pre W hD _ h => h.elim
theorem collectI (Bs : Nat) (T : Nat → Prop) (p : Option Addr) (cap : Nat) (zs : List Int) (w : World) (hBs : w.cell? ⟨Bs, 0, none⟩ = some (.slice p zs.length cap)) (hrow : IsRow T w (.slice p zs.length cap) (zs.map (.int .i64))) (hl : zs.length ≤ 1000000) :
    Calls Tryz.prog 183 #[.func (.func 185) #[] #[.pointer (some ⟨Bs, 0, none⟩)]] w fun e w' => ∃ v, e = .returned v ∧ IsVec (fun k => w.heap.size ≤ k) w' 3 1 v zs.length (zs.map (.int .i64)) ∧ Mod nil w w' := by
  have H := Lib.hid (appendSeqI Bs T p cap zs w hBs hrow hl)
  clear hBs hrow hl
  go_enter Tryz.func183, Tryz.ntmps183
  go_wp2_with fail
  refine H.out.mono ?_
  rintro e w' ⟨v, rfl, hv, hm⟩
  have HV := Lib.hid hv
  have HM := Lib.hid hm
  clear hv hm
  go_wp2_with fail
  go_ret
  exact ⟨v, rfl, HV.out, HM.out⟩
theorem sortedI (Bs : Nat) (T : Nat → Prop) (p : Option Addr) (cap : Nat) (zs : List Int) (w : World) (hBs : w.cell? ⟨Bs, 0, none⟩ = some (.slice p zs.length cap)) (hrow : IsRow T w (.slice p zs.length cap) (zs.map (.int .i64))) (hl : zs.length ≤ 1000000) :
    Calls Tryz.prog 139 #[.func (.func 185) #[] #[.pointer (some ⟨Bs, 0, none⟩)]] w fun e w' => ∃ v, e = .returned v ∧ IsOwn (fun k => w.heap.size ≤ k) w' v (asc zs) ∧ Mod nil w w' := by
  have H := Lib.hid (collectI Bs T p cap zs w hBs hrow hl)
  clear hBs hrow
  go_enter Tryz.func139, Tryz.ntmps139
  go_wp2_with fail
  refine H.out.mono ?_
  rintro e w1 ⟨v, rfl, hv, hm⟩
  have HM := Lib.hid hm
  have HS := Lib.hid (vecSortOwn (fun k => w.heap.size ≤ k) 3 v zs w1 hv (by omega))
  clear hv hm
  go_wp2_with fail
  refine HS.out.mono ?_
  rintro e w2 ⟨rfl, ho, hm2⟩
  have HO := Lib.hid ho
  have HM2 := Lib.hid (HM.out.new hm2 (fun _ h => h))
  clear ho hm2
  go_wp2_with fail
  go_ret
  exact ⟨v, rfl, HO.out, HM2.out⟩
end Go.Proofs.YtdfpmlfdmhlhcaaGreat

/- cflref6: the journal: Len, text, head, Room. (Printed by wip/tools/gen_sixj.py.) -/
import Derived.Test.YtdfahddpkkeldaaGreatShort
import Derived.Test.YtdfahddpkkeldaaGreatSixGet
import Derived.Test.YtdfahddpkkeldaaGreatRefNew
import Derived.Test.YtdfahddpkkeldaaGreatJLaw
import Derived.Test.YtdfahddpkkeldaaGreatEnts
set_option linter.unusedSimpArgs false
set_option linter.unusedVariables false
namespace Go.Proofs.YtdfahddpkkeldaaGreat
open Go.RowKit
theorem refLen (b : Nat) (B : Nat → Prop) (d : DS) (w : World) (h : IsRefIn w B b d) :
  Calls Tryz.prog 88 #[.pointer (some ⟨b, 0, none⟩)] w fun e w' => e = .returned (.int .i64 d.lasts.length) ∧ w' = w := by
 obtain ⟨P1, P2, P3, v1, v2, v3, h, -, -⟩ := h
 obtain ⟨p, c, rfl⟩ := h.now.form
 have c0 := cell_of h.obj 0
 simp only [List.getElem?_toArray, List.getElem?_cons_zero] at c0
 clear h
 go_enter Tryz.func88, Tryz.ntmps88
 go_wp2_with fail
 go_ret
 exact ⟨rfl, rfl⟩
theorem IsRefIn.room {w : World} {B : Nat → Prop} {b : Nat} {d : DS} (h : IsRefIn w B b d) : d.lasts.length ≤ 8192 := by
 obtain ⟨P1, P2, P3, v1, v2, v3, h, -, -⟩ := h
 exact h.room
theorem IsRefIn.own {w : World} {B : Nat → Prop} {b : Nat} {d : DS} (h : IsRefIn w B b d) : B b ∧ b < w.heap.size := by
 obtain ⟨P1, P2, P3, v1, v2, v3, h, hb, -⟩ := h
 exact ⟨hb, heap_lt h.obj⟩
set_option maxRecDepth 100000 in
set_option maxHeartbeats 4000000 in
theorem sixTextAt (jb db half at_ N : Nat) (B : Nat → Prop) (d : DS) (w : World) (hc : w.cell? ⟨jb, 0, none⟩ = some (.pointer (some ⟨db, 0, none⟩))) (h : IsRefIn w B db d) (hN : d.lasts.length / 2 = N) (hh : half ≤ 1) (ha : at_ ≤ N) (hr64 : ∀ i, (d.read i).1.length ≤ 64) :
  Calls Tryz.prog 60 #[.pointer (some ⟨jb, 0, none⟩), .int .i64 half, .int .i64 at_] w fun e w' => ∃ p n c, e = .returned (.slice p n c) ∧ IsVec (fun k => w.heap.size ≤ k) w' 5 1 (.slice p n c) n (bys (sectorsAt d (half * N + at_) (N - at_))) ∧ Mod nil w w' := by
 have HLEN := Lib.hid (fun W (m : Mod nil w W) => (refLen db B d W (h.mod m (fun _ _ _ f => f))).mono (fun e w' (h : e = .returned (.int .i64 d.lasts.length) ∧ w' = W) => (⟨h.1, by rw [h.2]; exact Mod.refl _ _⟩ : e = .returned (.int .i64 d.lasts.length) ∧ Mod nil W w')))
 have HRD := Lib.hid (fun (x : Nat) W (m : Mod nil w W) => refRead db B d (x : Int) W (h.mod m (fun _ _ _ f => f)))
 have hjl := World.block_lt_of_cell? _ _ hc
 have HK : Hid (∀ W, Mod nil w W → (fun w' => w'.cell? ⟨jb, 0, none⟩ = some (.pointer (some ⟨db, 0, none⟩))) W) := Lib.hid (fun W m => cell_kept hc m hjl (not_nil _))
 have hroom := h.room
 obtain ⟨n, hn⟩ : ∃ n, d.lasts.length = n := ⟨_, rfl⟩
 rw [hn] at HLEN hN hroom
 have hdiv : (n : Int) / 2 = (N : Int) := by omega
 have hNb : N ≤ 4096 := by omega
 have HR64 := Lib.hid hr64
 obtain ⟨HB, hHB⟩ : ∃ x, half * N = x := ⟨_, rfl⟩
 have hHBb : HB ≤ 8192 := by rw [← hHB]; have := Nat.mul_le_mul hh hNb; omega
 have hmul : (half : Int) * (N : Int) = (HB : Int) := by rw [← hHB]; simp
 have hmul2 : IntKind.i64.wrap ((half : Int) * (N : Int)) = (HB : Int) := by rw [hmul, IntKind.wrap_i64]; omega
 have HHB := Lib.hid hHB
 have hwB : IntKind.i64.wrap (HB : Int) = (HB : Int) := by rw [IntKind.wrap_i64]; omega
 have hwN : IntKind.i64.wrap (N : Int) = (N : Int) := by rw [IntKind.wrap_i64]; omega
 clear h hc hr64 hN hn hroom hHB
 go_enter Tryz.func60, Tryz.ntmps60
 go_wp2_with fail
 go_loopw [7, 8] (fun v7 v8 wr => ∃ (j m q I : Nat) (p : Option Addr), j ≤ N - at_ ∧ m ≤ 64 * j ∧ I = at_ + j ∧ v8 = .int .i64 I ∧ v7 = .slice p m q ∧ Hid ((sectorsAt d (half * N + at_) j).length = m) ∧ Hid (IsVec (fun k => w.heap.size ≤ k) wr 5 1 (.slice p m q) m (bys (sectorsAt d (half * N + at_) j))) ∧ Hid (Mod nil w wr)) (fun _ v _ => N - (intOf v).toNat)
 case atStart => exact ⟨0, 0, 0, at_, none, by omega, by omega, by omega, rfl, rfl, Lib.hid rfl, Lib.hid (IsVec.nil _ _ _ _), Lib.hid (Mod.refl _ _)⟩
 case round =>
  obtain ⟨j, m, q, I, p, hj, hmj, hI, rfl, rfl, HML, HV, HM⟩ := hrel
  have HI := Lib.hid hI
  clear hI
  have hc1 : wr.cell? ⟨jb, 0, none⟩ = some (.pointer (some ⟨db, 0, none⟩)) := HK.out wr HM.out
  by_cases hlt : j < N - at_
  ·have hlt' : I < N := by have := HI.out; omega
   obtain ⟨X, hX⟩ : ∃ x, HB + I = x := ⟨_, rfl⟩
   have hsum : (HB : Int) + (I : Int) = (X : Int) := by omega
   have hsum2 : IntKind.i64.wrap ((HB : Int) + (I : Int)) = (X : Int) := by rw [hsum, IntKind.wrap_i64]; omega
   have hwX : IntKind.i64.wrap (X : Int) = (X : Int) := by rw [IntKind.wrap_i64]; omega
   have HXX := Lib.hid hX
   clear hX
   go_wp2_with fail
   refine (HLEN.out wr HM.out).mono ?_
   rintro e w1 ⟨rfl, hm1⟩
   have hc2 : w1.cell? ⟨jb, 0, none⟩ = some (.pointer (some ⟨db, 0, none⟩)) := HK.out w1 (HM.out.thenNil hm1)
   have hmw : Mod nil w w1 := HM.out.thenNil hm1
   have HV1 := Lib.hid (HV.out.modNil hm1)
   have HMW := Lib.hid hmw
   clear hm1
   go_upto_region 5 with (fail)
   refine wp_region_held_drew (S := (fun w' => w'.cell? ⟨jb, 0, none⟩ = some (.pointer (some ⟨db, 0, none⟩)))) (by kernel_rfl) (HK.out _ mD) (fun hHeld => ?_)
   refine sH 0 ?_
   refine sH 1 ?_
   refine sH 2 ?_
   refine sH 3 ?_
   refine sH 4 ?_
   refine sH 5 ?_
   refine sH 6 ?_
   refine sH 7 ?_
   refine sH 8 ?_
   refine sH 12 ?_
   refine rH 9 (fun K hK => ?_)
   go_simp
   refine (HLEN.out _ ?_).mono ?_
   ·exact mD
   rintro e wl ⟨rfl, hml0⟩
   have hml : Mod nil w wl := (show Mod nil w _ from mD).thenNil hml0
   have hml1 : Mod nil w1 wl := (show Mod nil w1 _ from mD).thenNil hml0
   clear hml0
   refine hK.out _ _ (HK.out _ mD) (fun hHeld => ?_)
   clear hK K
   (try simp only [Act.put, pT])
   refine sH 10 ?_
   refine sH 11 ?_
   refine sH 13 ?_
   refine rH 14 (fun K hK => ?_)
   go_simp
   refine (HRD.out X _ ?_).mono ?_
   ·exact mD
   rintro e wr2 ⟨v, rfl, hv, hmr0⟩
   have hmr : Mod nil w wr2 := (show Mod nil w _ from mD).thenNil hmr0
   have hmr1 : Mod nil w1 wr2 := (show Mod nil w1 _ from mD).thenNil hmr0
   have HV2 := Lib.hid hv
   clear hv hmr0
   refine hK.out _ _ (HK.out _ mD) (fun hHeld => ?_)
   clear hK K
   (try simp only [Act.put, pT])
   refine sH 15 ?_
   refine sH 16 ?_
   refine sH 17 ?_
   refine sH 18 ?_
   refine sH 19 ?_
   refine wpAnyH_done (by kernel_rfl) ?_ _
   obtain ⟨pr, cr, rfl, -⟩ := id HV2.out
   have hlr := HR64.out (X : Int)
   obtain ⟨xs, hxs⟩ : ∃ x, (d.read (X : Int)).1 = x := ⟨_, rfl⟩
   rw [hxs] at hlr HV2
   rw [hxs, bys_length]
   obtain ⟨nr, hnr⟩ : ∃ n, xs.length = n := ⟨_, rfl⟩
   rw [bys_length, hnr] at HV2
   rw [hnr] at hlr ⊢
   have hmb : m ≤ 262144 := by omega
   obtain ⟨p2, c2, w2', hrun, hv2, hm2⟩ := six_append 40 HML.out hnr (HV1.out.modNil hmr1) HV2.out (by omega)
   have HRUN := Lib.hid hrun
   have HMLN : Hid ((sectorsAt d (half * N + at_) (j + 1)).length = m + nr ∧ sectorsAt d (half * N + at_) (j + 1) = sectorsAt d (half * N + at_) j ++ xs) := Lib.hid (by
    have e : sectorsAt d (half * N + at_) (j + 1) = sectorsAt d (half * N + at_) j ++ xs := by
     rw [sectorsAt, HHB.out, show HB + at_ + j = X by have := HI.out; have := HXX.out; omega, hxs]
    exact ⟨by rw [e, List.length_append, HML.out, hnr], e⟩)
   have HVN : Hid (IsVec (fun k => w.heap.size ≤ k) w2' 5 1 (.slice p2 (m + nr) c2) (m + nr) (bys (sectorsAt d (half * N + at_) (j + 1)))) := Lib.hid (by
    rw [HMLN.out.2]
    exact hv2.mono (fun k _ h => h.elim id (fun h => by have := hmr.size; omega)))
   have HMN : Hid (Mod nil w w2') := Lib.hid (hmr.new hm2 (fun k h => h))
   have HIN : Hid (I + 1 = at_ + (j + 1)) := Lib.hid (by have := HI.out; omega)
   clear hrun hv2 hm2 hxs hnr hml hml1 hmr hmr1 hHeld hmw hsum hsum2 hwX
   go_wp2_with (first | (at_builtin; refine wpList_append_run rfl _ _ _ _ rfl rfl rfl HRUN.out ?_))
   exact ⟨⟨j + 1, m + nr, c2, I + 1, p2, by omega, by omega, HIN.out, by go_num, rfl, Lib.hid HMLN.out.1, HVN, HMN⟩, by simp [intOf]; omega⟩
  ·obtain rfl : j = N - at_ := by omega
   have hge : ¬ I < N := by have := HI.out; omega
   go_wp2_with fail
   refine (HLEN.out wr HM.out).mono ?_
   rintro e w1 ⟨rfl, hm1⟩
   have HV1 := Lib.hid (HV.out.modNil hm1)
   have HMW := Lib.hid (HM.out.thenNil hm1)
   clear hm1
   go_wp2_with fail
   go_ret
   exact ⟨_, _, _, rfl, HV1.out, HMW.out⟩
theorem step_store_row6 {P : Program} {ops : Array Oper} {o : Oper} {a : Act} {w : World} {K : Act → World → Prop} {Q : Exit → Act → World → Prop} {E : Prop} (hgd : o.guard = none) (ty : TypeId) (x y : Operand) (ho : o.op = .store ty x y)
  (g : Nat) (cells : Array Value) (hx : a.eval x = .pointer (some ⟨g, 0, none⟩)) (hy : a.eval y = .agg cells)
  (t : TypeId) (old : Array Value) (hg : w.heap[g]? = some (.cells old t (0, 0))) (hi : (P.info? ty).map (·.size) = some cells.size)
  (hold : old.size = cells.size) (h1 : cells.all (·.oneCell') = true) (h : K (a.put o.dst undef) (w.setRow g cells)) : if Region.wanted o (yielded ops a.tmps) = true then Oper.wp P o a w K Q else E := by
 have hw : Region.wanted o (yielded ops a.tmps) = true := by simp [Region.wanted, hgd]
 rw [if_pos hw]
 exact wp_store_row ty x y ho g cells hx hy t old hg hi hold h1 h
def SixHeaded (w w' : World) (b : List UInt8) (e : Ending) : Prop :=
 Mod nil w w' ∧
 ((getF b = none ∧ e = .returned (.tuple #[.agg #[.int .i64 0, .int .i64 0, .int .i64 0, .slice none 0 0], .int .i64 0, .bool false])) ∨
  (∃ kind gen seq body q c, getF b = some (kind, gen, seq, body) ∧ e = .returned (.tuple #[.agg #[.int .i64 (kind : Nat), .int .i64 (gen : Nat), .int .i64 (seq : Nat), .slice q body.length c], .int .i64 (sectorsF body.length : Nat), .bool (decide (kind = 1 ∧ seq = 0))]) ∧
   IsVec (fun k => w.heap.size ≤ k) w' 5 1 (.slice q body.length c) body.length (bys body)))
set_option maxRecDepth 100000 in
set_option maxHeartbeats 4000000 in
theorem sixHead (jb db half N : Nat) (B : Nat → Prop) (d : DS) (w : World) (hc : w.cell? ⟨jb, 0, none⟩ = some (.pointer (some ⟨db, 0, none⟩))) (h : IsRefIn w B db d) (hN : d.lasts.length / 2 = N) (hh : half ≤ 1) (hr64 : ∀ i, (d.read i).1.length ≤ 64) :
  Calls Tryz.prog 58 #[.pointer (some ⟨jb, 0, none⟩), .int .i64 half] w fun e w' => SixHeaded w w' (sectorsAt d (half * N) N) e := by
 refine (?_ : ∀ Post : Ending → World → Prop, Hid (∀ e w', SixHeaded w w' (sectorsAt d (half * N) N) e → Post e w') → Calls Tryz.prog 58 #[.pointer (some ⟨jb, 0, none⟩), .int .i64 half] w Post) _ (Lib.hid (fun _ _ h => h))
 intro Post HPOST
 have hjl := World.block_lt_of_cell? _ _ hc
 have HT := Lib.hid (fun W (m : Mod nil w W) => sixTextAt jb db half 0 N B d W (cell_kept hc m hjl (not_nil _)) (h.mod m (fun _ _ _ f => f)) hN hh (Nat.zero_le _) hr64)
 have hNb : N ≤ 4096 := by have := h.room; omega
 have hlen : (sectorsAt d (half * N) N).length ≤ 64 * N := by
  have : ∀ n, (sectorsAt d (half * N) n).length ≤ 64 * n := fun n => by
   induction n with
   | zero => simp [sectorsAt]
   | succ n ih => rw [sectorsAt, List.length_append]; have := hr64 ((half * N + n : Nat) : Int); omega
  exact this N
 rw [Nat.add_zero, Nat.sub_zero] at HT
 obtain ⟨TB, hTB⟩ : ∃ x, sectorsAt d (half * N) N = x := ⟨_, rfl⟩
 rw [hTB] at HT HPOST hlen
 have HLEN := Lib.hid hlen
 clear hc h hr64 hN hTB hlen
 go_enter Tryz.func58, Tryz.ntmps58
 go_wp2_with fail
 obtain ⟨G, hG⟩ : ∃ g, w.heap.size = g := ⟨_, rfl⟩
 (try rw [hG])
 generalize hw1 : World.alloc w _ = w1
 have hm1 : Mod nil w w1 := by rw [← hw1]; exact (Mod.refl _ _).alloc _
 have HX : Hid (w1.heap[G]? = some (.cells #[.int .i64 0, .int .i64 0, .int .i64 0, .slice none 0 0] 122 (0, 0))) := Lib.hid (by rw [← hw1, ← hG]; exact heap_alloc_new _ _)
 have HG := Lib.hid hG
 have HM1 := Lib.hid hm1
 clear hw1 hm1 hG
 refine (HT.out w1 HM1.out).mono ?_
 rintro e w2 ⟨p, n, c, rfl, hv, hm2⟩
 have hvl : TB.length = n := by
  obtain ⟨_, _, e, _⟩ := hv.row
  simp only [Value.slice.injEq, bys_length] at e
  exact e.2.1.symm
 have hcap : n ≤ c ∧ c ≤ maxLen := by
  obtain ⟨p', c', h, h1, h2⟩ := vecCap hv
  simp only [Value.slice.injEq] at h
  obtain ⟨-, -, rfl⟩ := h
  exact ⟨h1, h2⟩
 have HGET := Lib.hid (sixGet _ p n c TB w2 hv.row hcap.1 hcap.2 (by have := HLEN.out; omega))
 have HX2 := Lib.hid (hm2.keep HX.out)
 have HM2 := Lib.hid (HM1.out.thenNil hm2)
 clear hv hm2 hvl hcap HT
 go_wp2_with fail
 refine HGET.out.mono ?_
 rintro e w3 ⟨hm3, hcase⟩
 have HX3 := Lib.hid (hm3.keep HX2.out)
 have HM3 := Lib.hid (HM2.out.thenNil hm3)
 have hGl : G < w3.heap.size := heap_lt HX3.out
 have hs3 := hm3.size
 rcases hcase with ⟨hnone, rfl⟩ | ⟨kind, gen, seq, body, q, cq, hsome, rfl, hv3⟩
 ·clear hm3
  go_upto_region 2 with (fail)
  obtain ⟨g7, hg7⟩ : ∃ g, w3.heap.size = g := ⟨_, rfl⟩
  (try rw [hg7])
  generalize hw4 : World.alloc w3 _ = w4
  have hm4 : Mod nil w3 w4 := by rw [← hw4]; exact (Mod.refl _ _).alloc _
  have hb7 : w4.heap[g7]? = some (.cells #[.int .i64 0, .int .i64 0, .int .i64 0, .slice none 0 0] 122 (0, 0)) := by rw [← hw4, ← hg7]; exact heap_alloc_new _ _
  have HK : Hid (∀ W, Mod (· = G) w4 W → (fun w' => w'.cell? ⟨g7, 0, none⟩ = some (.int .i64 0) ∧ w'.cell? ⟨g7, 1, none⟩ = some (.int .i64 0) ∧ w'.cell? ⟨g7, 2, none⟩ = some (.int .i64 0) ∧ w'.cell? ⟨g7, 3, none⟩ = some (.slice none 0 0)) W) := Lib.hid (fun W m => by
   have e := (m.block g7 (heap_lt hb7) (by omega)).trans hb7
   exact ⟨cell_of e 0, cell_of e 1, cell_of e 2, cell_of e 3⟩)
  have HXG : Hid (∀ W, Mod nil w4 W → W.heap[G]? = some (.cells #[.int .i64 0, .int .i64 0, .int .i64 0, .slice none 0 0] 122 (0, 0))) := Lib.hid (fun W m => m.keep (hm4.keep HX3.out))
  have HM4 := Lib.hid (HM3.out.thenNil hm4)
  have HE : Hid (∀ n, Post (.returned (.tuple #[.agg #[.int .i64 0, .int .i64 0, .int .i64 0, .slice none 0 0], .int .i64 0, .bool false])) (World.setRow (w4.drewN n) G #[.int .i64 0, .int .i64 0, .int .i64 0, .slice none 0 0])) := Lib.hid (fun n => HPOST.out _ _ ⟨(HM4.out.thenNil ((Mod.refl nil w4).drewN n)).new ((Mod.refl (· = G) _).rowSet G _ (fun _ => rfl)) (fun k h => by have := HG.out; omega), .inl ⟨hnone, rfl⟩⟩)
  clear hnone
  clear hw4 hm4 hb7 hg7
  refine wp_region_held_drew (S := (fun w' => w'.cell? ⟨g7, 0, none⟩ = some (.int .i64 0) ∧ w'.cell? ⟨g7, 1, none⟩ = some (.int .i64 0) ∧ w'.cell? ⟨g7, 2, none⟩ = some (.int .i64 0) ∧ w'.cell? ⟨g7, 3, none⟩ = some (.slice none 0 0))) (by kernel_rfl) (HK.out _ (by (repeat (first | assumption | exact Mod.refl _ _ | refine Mod.drew ?_ | refine Mod.rowSet ?_ _ _ (fun _ => rfl))))) (fun hHeld => ?_)
  refine sH 0 ?_
  refine sH 1 ?_
  refine sH 2 ?_
  refine sH 3 ?_
  refine sH 4 ?_
  refine sS 5 ?_
  refine sS 6 ?_
  refine sS 7 ?_
  refine sH 8 ?_
  refine sH 9 ?_
  refine sS 10 ?_
  refine sS 11 ?_
  refine sS 12 ?_
  refine sH 13 ?_
  refine rH 14 (fun K hK => ?_)
  refine step_store_row6 rfl _ _ _ rfl G #[.int .i64 0, .int .i64 0, .int .i64 0, .slice none 0 0] rfl rfl 122 _ (HXG.out _ (by (repeat (first | assumption | exact Mod.refl _ _ | refine Mod.drew ?_ | refine Mod.rowSet ?_ _ _ (fun _ => rfl))))) info_frame rfl (by simp [Value.oneCell']) ?_
  refine hK.out _ _ (HK.out _ (by (repeat (first | assumption | exact Mod.refl _ _ | refine Mod.drew ?_ | refine Mod.rowSet ?_ _ _ (fun _ => rfl))))) (fun hHeld => ?_)
  clear hK K
  (try simp only [Act.put, pT])
  refine sH 15 ?_
  refine sH 16 ?_
  refine wpAnyH_done (by kernel_rfl) ?_ _
  go_wp2_with fail
  refine bodyPost_ret (results_cell_row3 rfl _ _ G 122 #[.int .i64 0, .int .i64 0, .int .i64 0, .slice none 0 0] (0, 0) rfl (setRow_heap _ G _ #[.int .i64 0, .int .i64 0, .int .i64 0, .slice none 0 0] _ _ (HXG.out _ (by (repeat (first | assumption | exact Mod.refl _ _ | refine Mod.drew ?_ | refine Mod.rowSet ?_ _ _ (fun _ => rfl)))))) Tryz.underlying122 info_frame) rfl ?_
  (first | exact HE.out 0 | exact HE.out 1)
 ·obtain ⟨nq, hnq⟩ : ∃ x, body.length = x := ⟨_, rfl⟩
  obtain ⟨sc, hsc⟩ : ∃ x, sectorsF nq = x := ⟨_, rfl⟩
  have HNQ := Lib.hid hnq
  have HSC := Lib.hid hsc
  have HSOME := Lib.hid hsome
  rw [hnq] at hv3 ⊢
  rw [hsc]
  have HV3 : Hid (IsVec (fun k => w2.heap.size ≤ k ∧ k < w3.heap.size) w3 5 1 (.slice q nq cq) nq (bys body)) := Lib.hid (hv3.mono (fun k hk h => ⟨h, hk⟩))
  have HG2 : Hid (G < w2.heap.size) := Lib.hid (heap_lt HX2.out)
  clear hm3 hv3 hsome hnq hsc
  by_cases hk1 : kind = 1
  rotate_left
  ·have HOK : Hid (decide (kind = 1 ∧ seq = 0) = false) := Lib.hid (decide_eq_false (fun h => hk1 h.1))
   have hkb : ((kind : Int) == 1) = false := by rw [beq_eq_false_iff_ne]; omega
   clear hk1
   go_upto_region 2 with (fail)
   obtain ⟨g7, hg7⟩ : ∃ g, w3.heap.size = g := ⟨_, rfl⟩
   (try rw [hg7])
   generalize hw4 : World.alloc w3 _ = w4
   have hm4 : Mod nil w3 w4 := by rw [← hw4]; exact (Mod.refl _ _).alloc _
   have hb7 : w4.heap[g7]? = some (.cells #[.int .i64 (kind : Int), .int .i64 (gen : Int), .int .i64 (seq : Int), .slice q nq cq] 122 (0, 0)) := by rw [← hw4, ← hg7]; exact heap_alloc_new _ _
   have HK : Hid (∀ W, Mod (· = G) w4 W → (fun w' => w'.cell? ⟨g7, 0, none⟩ = some (.int .i64 (kind : Int)) ∧ w'.cell? ⟨g7, 1, none⟩ = some (.int .i64 (gen : Int)) ∧ w'.cell? ⟨g7, 2, none⟩ = some (.int .i64 (seq : Int)) ∧ w'.cell? ⟨g7, 3, none⟩ = some (.slice q nq cq)) W) := Lib.hid (fun W m => by
    have e := (m.block g7 (heap_lt hb7) (by omega)).trans hb7
    exact ⟨cell_of e 0, cell_of e 1, cell_of e 2, cell_of e 3⟩)
   have HXG : Hid (∀ W, Mod nil w4 W → W.heap[G]? = some (.cells #[.int .i64 0, .int .i64 0, .int .i64 0, .slice none 0 0] 122 (0, 0))) := Lib.hid (fun W m => m.keep (hm4.keep HX3.out))
   have HM4 := Lib.hid (HM3.out.thenNil hm4)
   have HE : Hid (∀ n, Post (.returned (.tuple #[.agg #[.int .i64 (kind : Int), .int .i64 (gen : Int), .int .i64 (seq : Int), .slice q nq cq], .int .i64 (sc : Nat), .bool false])) (World.setRow (w4.drewN n) G #[.int .i64 (kind : Int), .int .i64 (gen : Int), .int .i64 (seq : Int), .slice q nq cq])) := Lib.hid (fun n => HPOST.out _ _ ⟨(HM4.out.thenNil ((Mod.refl nil w4).drewN n)).new ((Mod.refl (· = G) _).rowSet G _ (fun _ => rfl)) (fun k h => by have := HG.out; omega), .inr ⟨kind, gen, seq, body, q, cq, HSOME.out, by rw [HNQ.out, HSC.out, HOK.out], by rw [HNQ.out]; exact (((HV3.out.modNil hm4).modNil ((Mod.refl nil w4).drewN n)).mod ((Mod.refl (· = G) _).rowSet G _ (fun _ => rfl)) (fun k _ h e => by have := h.1; have := HG2.out; omega)).mono (fun k _ h => by have := HM2.out.size; have := h.1; omega)⟩⟩)
   clear hw4 hm4 hb7 hg7
   refine wp_region_held_drew (S := (fun w' => w'.cell? ⟨g7, 0, none⟩ = some (.int .i64 (kind : Int)) ∧ w'.cell? ⟨g7, 1, none⟩ = some (.int .i64 (gen : Int)) ∧ w'.cell? ⟨g7, 2, none⟩ = some (.int .i64 (seq : Int)) ∧ w'.cell? ⟨g7, 3, none⟩ = some (.slice q nq cq))) (by kernel_rfl) (HK.out _ (by (repeat (first | assumption | exact Mod.refl _ _ | refine Mod.drew ?_ | refine Mod.rowSet ?_ _ _ (fun _ => rfl))))) (fun hHeld => ?_)
   refine sH 0 ?_
   refine sH 1 ?_
   refine sH 2 ?_
   refine sH 3 ?_
   refine sH 4 ?_
   refine sH 5 ?_
   refine sH 6 ?_
   refine sH 7 ?_
   refine sH 8 ?_
   refine sH 9 ?_
   refine sS 10 ?_
   refine sS 11 ?_
   refine sS 12 ?_
   refine sH 13 ?_
   refine rH 14 (fun K hK => ?_)
   refine step_store_row6 rfl _ _ _ rfl G #[.int .i64 (kind : Int), .int .i64 (gen : Int), .int .i64 (seq : Int), .slice q nq cq] rfl rfl 122 _ (HXG.out _ (by (repeat (first | assumption | exact Mod.refl _ _ | refine Mod.drew ?_ | refine Mod.rowSet ?_ _ _ (fun _ => rfl))))) info_frame rfl (by simp [Value.oneCell']) ?_
   refine hK.out _ _ (HK.out _ (by (repeat (first | assumption | exact Mod.refl _ _ | refine Mod.drew ?_ | refine Mod.rowSet ?_ _ _ (fun _ => rfl))))) (fun hHeld => ?_)
   clear hK K
   (try simp only [Act.put, pT])
   refine sH 15 ?_
   refine sH 16 ?_
   refine wpAnyH_done (by kernel_rfl) ?_ _
   go_wp2_with fail
   refine bodyPost_ret (results_cell_row3 rfl _ _ G 122 #[.int .i64 (kind : Int), .int .i64 (gen : Int), .int .i64 (seq : Int), .slice q nq cq] (0, 0) rfl (setRow_heap _ G _ #[.int .i64 (kind : Int), .int .i64 (gen : Int), .int .i64 (seq : Int), .slice q nq cq] _ _ (HXG.out _ (by (repeat (first | assumption | exact Mod.refl _ _ | refine Mod.drew ?_ | refine Mod.rowSet ?_ _ _ (fun _ => rfl)))))) Tryz.underlying122 info_frame) rfl ?_
   (first | exact HE.out 0 | exact HE.out 1)
  ·have hkb : ((kind : Int) == 1) = true := by rw [beq_iff_eq]; omega
   by_cases hs0 : seq = 0
   rotate_left
   ·have HOK : Hid (decide (kind = 1 ∧ seq = 0) = false) := Lib.hid (decide_eq_false (fun h => hs0 h.2))
    have hsb : ((seq : Int) == 0) = false := by rw [beq_eq_false_iff_ne]; omega
    clear hs0 hk1
    go_upto_region 2 with (fail)
    obtain ⟨g7, hg7⟩ : ∃ g, w3.heap.size = g := ⟨_, rfl⟩
    (try rw [hg7])
    generalize hw4 : World.alloc w3 _ = w4
    have hm4 : Mod nil w3 w4 := by rw [← hw4]; exact (Mod.refl _ _).alloc _
    have hb7 : w4.heap[g7]? = some (.cells #[.int .i64 (kind : Int), .int .i64 (gen : Int), .int .i64 (seq : Int), .slice q nq cq] 122 (0, 0)) := by rw [← hw4, ← hg7]; exact heap_alloc_new _ _
    have HK : Hid (∀ W, Mod (· = G) w4 W → (fun w' => w'.cell? ⟨g7, 0, none⟩ = some (.int .i64 (kind : Int)) ∧ w'.cell? ⟨g7, 1, none⟩ = some (.int .i64 (gen : Int)) ∧ w'.cell? ⟨g7, 2, none⟩ = some (.int .i64 (seq : Int)) ∧ w'.cell? ⟨g7, 3, none⟩ = some (.slice q nq cq)) W) := Lib.hid (fun W m => by
     have e := (m.block g7 (heap_lt hb7) (by omega)).trans hb7
     exact ⟨cell_of e 0, cell_of e 1, cell_of e 2, cell_of e 3⟩)
    have HXG : Hid (∀ W, Mod nil w4 W → W.heap[G]? = some (.cells #[.int .i64 0, .int .i64 0, .int .i64 0, .slice none 0 0] 122 (0, 0))) := Lib.hid (fun W m => m.keep (hm4.keep HX3.out))
    have HM4 := Lib.hid (HM3.out.thenNil hm4)
    have HE : Hid (∀ n, Post (.returned (.tuple #[.agg #[.int .i64 (kind : Int), .int .i64 (gen : Int), .int .i64 (seq : Int), .slice q nq cq], .int .i64 (sc : Nat), .bool false])) (World.setRow (w4.drewN n) G #[.int .i64 (kind : Int), .int .i64 (gen : Int), .int .i64 (seq : Int), .slice q nq cq])) := Lib.hid (fun n => HPOST.out _ _ ⟨(HM4.out.thenNil ((Mod.refl nil w4).drewN n)).new ((Mod.refl (· = G) _).rowSet G _ (fun _ => rfl)) (fun k h => by have := HG.out; omega), .inr ⟨kind, gen, seq, body, q, cq, HSOME.out, by rw [HNQ.out, HSC.out, HOK.out], by rw [HNQ.out]; exact (((HV3.out.modNil hm4).modNil ((Mod.refl nil w4).drewN n)).mod ((Mod.refl (· = G) _).rowSet G _ (fun _ => rfl)) (fun k _ h e => by have := h.1; have := HG2.out; omega)).mono (fun k _ h => by have := HM2.out.size; have := h.1; omega)⟩⟩)
    clear hw4 hm4 hb7 hg7
    refine wp_region_held_drew (S := (fun w' => w'.cell? ⟨g7, 0, none⟩ = some (.int .i64 (kind : Int)) ∧ w'.cell? ⟨g7, 1, none⟩ = some (.int .i64 (gen : Int)) ∧ w'.cell? ⟨g7, 2, none⟩ = some (.int .i64 (seq : Int)) ∧ w'.cell? ⟨g7, 3, none⟩ = some (.slice q nq cq))) (by kernel_rfl) (HK.out _ (by (repeat (first | assumption | exact Mod.refl _ _ | refine Mod.drew ?_ | refine Mod.rowSet ?_ _ _ (fun _ => rfl))))) (fun hHeld => ?_)
    refine sH 0 ?_
    refine sH 1 ?_
    refine sH 2 ?_
    refine sH 3 ?_
    refine sH 4 ?_
    refine sH 5 ?_
    refine sH 6 ?_
    refine sH 7 ?_
    refine sH 8 ?_
    refine sH 9 ?_
    refine sH 10 ?_
    refine sH 11 ?_
    refine sH 12 ?_
    refine sH 13 ?_
    refine rH 14 (fun K hK => ?_)
    refine step_store_row6 rfl _ _ _ rfl G #[.int .i64 (kind : Int), .int .i64 (gen : Int), .int .i64 (seq : Int), .slice q nq cq] rfl rfl 122 _ (HXG.out _ (by (repeat (first | assumption | exact Mod.refl _ _ | refine Mod.drew ?_ | refine Mod.rowSet ?_ _ _ (fun _ => rfl))))) info_frame rfl (by simp [Value.oneCell']) ?_
    refine hK.out _ _ (HK.out _ (by (repeat (first | assumption | exact Mod.refl _ _ | refine Mod.drew ?_ | refine Mod.rowSet ?_ _ _ (fun _ => rfl))))) (fun hHeld => ?_)
    clear hK K
    (try simp only [Act.put, pT])
    refine sH 15 ?_
    refine sH 16 ?_
    refine wpAnyH_done (by kernel_rfl) ?_ _
    go_wp2_with fail
    refine bodyPost_ret (results_cell_row3 rfl _ _ G 122 #[.int .i64 (kind : Int), .int .i64 (gen : Int), .int .i64 (seq : Int), .slice q nq cq] (0, 0) rfl (setRow_heap _ G _ #[.int .i64 (kind : Int), .int .i64 (gen : Int), .int .i64 (seq : Int), .slice q nq cq] _ _ (HXG.out _ (by (repeat (first | assumption | exact Mod.refl _ _ | refine Mod.drew ?_ | refine Mod.rowSet ?_ _ _ (fun _ => rfl)))))) Tryz.underlying122 info_frame) rfl ?_
    (first | exact HE.out 0 | exact HE.out 1)
   ·have HOK : Hid (decide (kind = 1 ∧ seq = 0) = true) := Lib.hid (decide_eq_true ⟨hk1, hs0⟩)
    have hsb : ((seq : Int) == 0) = true := by rw [beq_iff_eq]; omega
    clear hs0 hk1
    go_upto_region 2 with (fail)
    obtain ⟨g7, hg7⟩ : ∃ g, w3.heap.size = g := ⟨_, rfl⟩
    (try rw [hg7])
    generalize hw4 : World.alloc w3 _ = w4
    have hm4 : Mod nil w3 w4 := by rw [← hw4]; exact (Mod.refl _ _).alloc _
    have hb7 : w4.heap[g7]? = some (.cells #[.int .i64 (kind : Int), .int .i64 (gen : Int), .int .i64 (seq : Int), .slice q nq cq] 122 (0, 0)) := by rw [← hw4, ← hg7]; exact heap_alloc_new _ _
    have HK : Hid (∀ W, Mod (· = G) w4 W → (fun w' => w'.cell? ⟨g7, 0, none⟩ = some (.int .i64 (kind : Int)) ∧ w'.cell? ⟨g7, 1, none⟩ = some (.int .i64 (gen : Int)) ∧ w'.cell? ⟨g7, 2, none⟩ = some (.int .i64 (seq : Int)) ∧ w'.cell? ⟨g7, 3, none⟩ = some (.slice q nq cq)) W) := Lib.hid (fun W m => by
     have e := (m.block g7 (heap_lt hb7) (by omega)).trans hb7
     exact ⟨cell_of e 0, cell_of e 1, cell_of e 2, cell_of e 3⟩)
    have HXG : Hid (∀ W, Mod nil w4 W → W.heap[G]? = some (.cells #[.int .i64 0, .int .i64 0, .int .i64 0, .slice none 0 0] 122 (0, 0))) := Lib.hid (fun W m => m.keep (hm4.keep HX3.out))
    have HM4 := Lib.hid (HM3.out.thenNil hm4)
    have HE : Hid (∀ n, Post (.returned (.tuple #[.agg #[.int .i64 (kind : Int), .int .i64 (gen : Int), .int .i64 (seq : Int), .slice q nq cq], .int .i64 (sc : Nat), .bool true])) (World.setRow (w4.drewN n) G #[.int .i64 (kind : Int), .int .i64 (gen : Int), .int .i64 (seq : Int), .slice q nq cq])) := Lib.hid (fun n => HPOST.out _ _ ⟨(HM4.out.thenNil ((Mod.refl nil w4).drewN n)).new ((Mod.refl (· = G) _).rowSet G _ (fun _ => rfl)) (fun k h => by have := HG.out; omega), .inr ⟨kind, gen, seq, body, q, cq, HSOME.out, by rw [HNQ.out, HSC.out, HOK.out], by rw [HNQ.out]; exact (((HV3.out.modNil hm4).modNil ((Mod.refl nil w4).drewN n)).mod ((Mod.refl (· = G) _).rowSet G _ (fun _ => rfl)) (fun k _ h e => by have := h.1; have := HG2.out; omega)).mono (fun k _ h => by have := HM2.out.size; have := h.1; omega)⟩⟩)
    clear hw4 hm4 hb7 hg7
    refine wp_region_held_drew (S := (fun w' => w'.cell? ⟨g7, 0, none⟩ = some (.int .i64 (kind : Int)) ∧ w'.cell? ⟨g7, 1, none⟩ = some (.int .i64 (gen : Int)) ∧ w'.cell? ⟨g7, 2, none⟩ = some (.int .i64 (seq : Int)) ∧ w'.cell? ⟨g7, 3, none⟩ = some (.slice q nq cq))) (by kernel_rfl) (HK.out _ (by (repeat (first | assumption | exact Mod.refl _ _ | refine Mod.drew ?_ | refine Mod.rowSet ?_ _ _ (fun _ => rfl))))) (fun hHeld => ?_)
    refine sH 0 ?_
    refine sH 1 ?_
    refine sH 2 ?_
    refine sH 3 ?_
    refine sH 4 ?_
    refine sH 5 ?_
    refine sH 6 ?_
    refine sH 7 ?_
    refine sH 8 ?_
    refine sH 9 ?_
    refine sH 10 ?_
    refine sH 11 ?_
    refine sH 12 ?_
    refine sH 13 ?_
    refine rH 14 (fun K hK => ?_)
    refine step_store_row6 rfl _ _ _ rfl G #[.int .i64 (kind : Int), .int .i64 (gen : Int), .int .i64 (seq : Int), .slice q nq cq] rfl rfl 122 _ (HXG.out _ (by (repeat (first | assumption | exact Mod.refl _ _ | refine Mod.drew ?_ | refine Mod.rowSet ?_ _ _ (fun _ => rfl))))) info_frame rfl (by simp [Value.oneCell']) ?_
    refine hK.out _ _ (HK.out _ (by (repeat (first | assumption | exact Mod.refl _ _ | refine Mod.drew ?_ | refine Mod.rowSet ?_ _ _ (fun _ => rfl))))) (fun hHeld => ?_)
    clear hK K
    (try simp only [Act.put, pT])
    refine sH 15 ?_
    refine sH 16 ?_
    refine wpAnyH_done (by kernel_rfl) ?_ _
    go_wp2_with fail
    refine bodyPost_ret (results_cell_row3 rfl _ _ G 122 #[.int .i64 (kind : Int), .int .i64 (gen : Int), .int .i64 (seq : Int), .slice q nq cq] (0, 0) rfl (setRow_heap _ G _ #[.int .i64 (kind : Int), .int .i64 (gen : Int), .int .i64 (seq : Int), .slice q nq cq] _ _ (HXG.out _ (by (repeat (first | assumption | exact Mod.refl _ _ | refine Mod.drew ?_ | refine Mod.rowSet ?_ _ _ (fun _ => rfl)))))) Tryz.underlying122 info_frame) rfl ?_
    (first | exact HE.out 0 | exact HE.out 1)
/-- the reference's journal: its object at block jb, all of it at blocks of S -/
structure IsRJ (S : Nat → Prop) (w : World) (jb db : Nat) (s : JS) : Prop where
 lo : S jb
 ex : ∃ pp cp nr pr cr, w.heap[jb]? = some (.cells #[.pointer (some ⟨db, 0, none⟩), .int .i64 s.half, .int .i64 s.gen, .bool s.has, .slice pp s.pict.length cp, .slice pr nr cr, .int .i64 s.at_, .int .i64 ((s.recs.length + 1 : Nat) : Int), .bool s.down] 103 (0, 0)) ∧ IsRow (fun k => (S k ∧ k ≠ jb) ∧ ¬ (Value.slice pr nr cr).ownBlock = some k) w (.slice pp s.pict.length cp) (bys s.pict) ∧ IsTextsC (fun k => S k ∧ k ≠ jb) w (.slice pr nr cr) nr s.recs
theorem IsRJ.mod {S T : Nat → Prop} {w w' : World} {jb db : Nat} {s : JS} (h : IsRJ S w jb db s) (m : Mod T w w') (hs : ∀ k, k < w.heap.size → S k → ¬ T k) : IsRJ S w' jb db s := by
 obtain ⟨pp, cp, nr, pr, cr, h1, h2, h3⟩ := h.ex
 exact ⟨h.lo, pp, cp, nr, pr, cr, (m.block jb (heap_lt h1) (hs jb (heap_lt h1) h.lo)).trans h1, h2.mod m (fun k hk h => hs k hk h.1.1), h3.mod m (fun k hk h => hs k hk h.1)⟩
theorem IsRJ.modNil {S : Nat → Prop} {w w' : World} {jb db : Nat} {s : JS} (h : IsRJ S w jb db s) (m : Mod nil w w') : IsRJ S w' jb db s := h.mod m (fun _ _ _ f => f)
theorem IsRJ.mono {S T : Nat → Prop} {w : World} {jb db : Nat} {s : JS} (h : IsRJ S w jb db s) (hs : ∀ k, k < w.heap.size → S k → T k) : IsRJ T w jb db s := by
 obtain ⟨pp, cp, nr, pr, cr, h1, h2, h3⟩ := h.ex
 exact ⟨hs jb (heap_lt h1) h.lo, pp, cp, nr, pr, cr, h1, h2.mono (fun k hk h => ⟨⟨hs k hk h.1.1, h.1.2⟩, h.2⟩), h3.mono (fun k hk h => ⟨hs k hk h.1, h.2⟩)⟩
theorem sixRoom (S B : Nat → Prop) (jb db : Nat) (s : JS) (d : DS) (w : World) (hj : IsRJ S w jb db s) (h : IsRefIn w B db d) (ha : s.at_ ≤ d.lasts.length / 2) :
  Calls Tryz.prog 69 #[.pointer (some ⟨jb, 0, none⟩)] w fun e w' => e = .returned (.int .i64 ((d.lasts.length / 2 - s.at_ : Nat) : Int)) ∧ Mod nil w w' := by
 obtain ⟨pp, cp, nr, pr, cr, h1, -, -⟩ := hj.ex
 have c0 := cell_of h1 0
 have c6 := cell_of h1 6
 simp only [List.getElem?_toArray, List.getElem?_cons_zero, List.getElem?_cons_succ] at c0 c6
 have hroom := h.room
 have HL := Lib.hid (fun W (m : Mod nil w W) => refLen db B d W (h.mod m (fun _ _ _ f => f)))
 obtain ⟨n, hn⟩ : ∃ n, d.lasts.length = n := ⟨_, rfl⟩
 rw [hn] at HL ha hroom ⊢
 obtain ⟨a, ha2⟩ : ∃ a, s.at_ = a := ⟨_, rfl⟩
 rw [ha2] at c6 ha ⊢
 obtain ⟨N, hN⟩ : ∃ N, n / 2 = N := ⟨_, rfl⟩
 rw [hN] at ha ⊢
 have hdiv : (n : Int) / 2 = (N : Int) := by omega
 have hw1 : IntKind.i64.wrap (N : Int) = (N : Int) := by rw [IntKind.wrap_i64]; omega
 have hsub : (N : Int) - (a : Int) = ((N - a : Nat) : Int) := by omega
 have hw2 : IntKind.i64.wrap ((N : Int) - (a : Int)) = ((N - a : Nat) : Int) := by rw [IntKind.wrap_i64]; omega
 have hw3 : IntKind.i64.wrap (((N - a : Nat) : Int)) = ((N - a : Nat) : Int) := by rw [IntKind.wrap_i64]; omega
 clear h1 hj h hn ha2 hN
 go_enter Tryz.func69, Tryz.ntmps69
 go_upto_region 1 with (fail)
 go_quiet (first | (go_at_call 88; exact Calls.quiet_of_same (HL.out _ (by (repeat (first | exact Mod.refl _ _ | refine Mod.drew ?_ | refine Mod.drewN ?_ _))))))
 go_wp2_with fail
 go_ret
 exact ⟨rfl, (Mod.refl _ _).drewN _⟩
end Go.Proofs.YtdfahddpkkeldaaGreat

/- cflref6: the journal: lay. (Printed by wip/tools/gen_sixlay.py.) -/
namespace Go.Proofs.YtdfahddpkkeldaaGreat
open Go.RowKit
theorem IsRefIn.mono {w : World} {B C : Nat → Prop} {b : Nat} {d : DS} (h : IsRefIn w B b d) (hs : ∀ k, B k → C k) : IsRefIn w C b d := by
 obtain ⟨P1, P2, P3, v1, v2, v3, h, hb, hB⟩ := h
 exact ⟨P1, P2, P3, v1, v2, v3, h, hs _ hb, fun k hk => hs _ (hB k hk)⟩
theorem write_err (d : DS) (i : Nat) (l : List UInt8) (hi : i < d.lasts.length) (hl : l.length = 64) : (d.write (i : Int) l).2 = 0 ∨ (d.write (i : Int) l).2 = 13 := by
 have hs : d.sector (i : Int) = 0 ∨ d.sector (i : Int) = 13 := by
  unfold DS.sector
  by_cases hd : d.down = true
  ·rw [if_pos hd]; exact .inr rfl
  ·rw [if_neg hd, if_neg (by omega)]; exact .inl rfl
 unfold DS.write
 rcases hs with h | h
 ·rw [if_neg (by rw [h]; simp), if_neg (by omega)]
  by_cases hh : d.holds = false
  ·rw [if_pos hh]; exact .inr rfl
  ·rw [if_neg hh]; exact .inl rfl
 ·rw [if_pos (by rw [h]; decide)]; exact .inr h
theorem IsRJ.downs {S : Nat → Prop} {w : World} {jb db : Nat} {s : JS} (h : IsRJ S w jb db s) : IsRJ S (w.setCell ⟨jb, 8, none⟩ (.bool true)) jb db { s with down := true } := by
 obtain ⟨pp, cp, nr, pr, cr, h1, h2, h3⟩ := h.ex
 have h4 := heap_setCell_same h1 (.bool true) (off := 8)
 simp only [List.setIfInBounds_toArray, List.set_cons_succ, List.set_cons_zero] at h4
 have ms : Mod (· = jb) w (w.setCell ⟨jb, 8, none⟩ (.bool true)) := (Mod.refl _ _).setCell _ _ (fun _ => rfl)
 exact ⟨h.lo, pp, cp, nr, pr, cr, h4, h2.mod ms (fun k _ h e => h.1.2 e), h3.mod ms (fun k _ h e => h.2 e)⟩
theorem sect_row {T : Nat → Prop} {w : World} {g o nb cb : Nat} {b : List UInt8} (h : IsRow T w (.slice (some ⟨g, o, none⟩) nb cb) (bys b)) (hb : b.length = nb) (k a z : Nat) (ha : 64 * k = a) (hz : a + 64 = z) (hle : z ≤ nb) : IsRow T w (.slice (some ⟨g, o + a, none⟩) 64 (cb - a)) (bys (sectAt b k)) := by
 have h1 := row_drop (rowFront h z (by rw [bys_length, hb]; exact hle)) a (by rw [List.length_take, bys_length, hb]; omega)
 rw [← bysTake, ← bys_drop, List.drop_take, show z - a = 64 by omega] at h1
 unfold sectAt
 rw [ha]
 exact h1
set_option maxRecDepth 100000 in
set_option maxHeartbeats 8000000 in
theorem sixLay (S B T : Nat → Prop) (jb db half at_ m N X nb cb : Nat) (pb : Option Addr) (b : List UInt8) (s : JS) (d : DS) (w : World) (hj : IsRJ S w jb db s) (h : IsRefIn w B db d) (hSB : ∀ k, S k → k < w.heap.size → ¬ B k) (hrow : IsRow T w (.slice pb nb cb) (bys b)) (hT : ∀ k, T k → k < w.heap.size ∧ ¬ B k) (hcap : nb ≤ cb) (hcm : cb ≤ maxLen)
  (hm : b.length = 64 * m) (h1 : 1 ≤ m) (hN : d.lasts.length / 2 = N) (hh : half ≤ 1) (ha : at_ + m ≤ N) (hX : half * N + at_ = X) :
  Calls Tryz.prog 70 #[.pointer (some ⟨jb, 0, none⟩), .int .i64 half, .int .i64 at_, .slice pb nb cb] w fun e w' => e = .returned (.int .i64 (if (d.lays X b m).2 = true then 0 else 13)) ∧ IsRJ S w' jb db { s with down := s.down || !(d.lays X b m).2 } ∧ IsRefIn w' (fun k => B k ∨ w.heap.size ≤ k) db (d.lays X b m).1 ∧ Mod (fun k => B k ∨ k = jb) w w' := by
 refine (?_ : ∀ Post : Ending → World → Prop, Hid (∀ e w', (e = .returned (.int .i64 (if (d.lays X b m).2 = true then 0 else 13)) ∧ IsRJ S w' jb db { s with down := s.down || !(d.lays X b m).2 } ∧ IsRefIn w' (fun k => B k ∨ w.heap.size ≤ k) db (d.lays X b m).1 ∧ Mod (fun k => B k ∨ k = jb) w w') → Post e w') → Calls Tryz.prog 70 #[.pointer (some ⟨jb, 0, none⟩), .int .i64 half, .int .i64 at_, .slice pb nb cb] w Post) _ (Lib.hid (fun _ _ h => h))
 intro Post HPOST
 have hbl : b.length = nb := by
  obtain ⟨_, _, h, _⟩ := hrow
  simp only [Value.slice.injEq, bys_length] at h
  exact h.2.1.symm
 obtain ⟨g, o, rfl, -, -⟩ := row_some hrow (by omega)
 obtain ⟨pp, cp, nr, pr, cr, hb1, -, -⟩ := id hj.ex
 have c0 := cell_of hb1 0
 simp only [List.getElem?_toArray, List.getElem?_cons_zero] at c0
 have hroom := h.room
 have hjl := heap_lt hb1
 have hjB : ¬ B jb := hSB jb hj.lo hjl
 have HJ := Lib.hid hj
 have HD := Lib.hid h
 have HROW := Lib.hid hrow
 have HT := Lib.hid hT
 have HSB := Lib.hid hSB
 have HBL := Lib.hid hbl
 have HNL : Hid (2 * N ≤ d.lasts.length) := Lib.hid (by omega)
 have HK : Hid (∀ W, Mod (fun k => B k ∨ w.heap.size ≤ k) w W → (fun w' => w'.cell? ⟨jb, 0, none⟩ = some (.pointer (some ⟨db, 0, none⟩))) W) := Lib.hid (fun W m => cell_kept c0 m hjl (fun h => h.elim hjB (fun h => by omega)))
 have HL := Lib.hid (fun W (m : Mod nil w W) => refLen db B d W (h.mod m (fun _ _ _ f => f)))
 obtain ⟨n, hn⟩ : ∃ n, d.lasts.length = n := ⟨_, rfl⟩
 rw [hn] at HL hN hroom
 have hdiv : (n : Int) / 2 = (N : Int) := by omega
 have hNb : N ≤ 4096 := by omega
 obtain ⟨HB, hHB⟩ : ∃ x, half * N = x := ⟨_, rfl⟩
 have hHBb : HB ≤ 4096 := by rw [← hHB]; have := Nat.mul_le_mul hh (Nat.le_refl N); omega
 have hXb : X + m ≤ 8192 ∧ HB + at_ = X ∧ HB ≤ N := by rw [← hHB]; have := Nat.mul_le_mul hh (Nat.le_refl N); omega
 have HNN := Lib.hid hn
 have hmul : (half : Int) * (N : Int) = (HB : Int) := by rw [← hHB]; simp
 have hsum : (HB : Int) + (at_ : Int) = (X : Int) := by omega
 have hmb : m ≤ 4096 := by omega
 have hnb : nb = 64 * m := by omega
 have hnq : (nb : Int) / 64 = (m : Int) := by omega
 have HNB := Lib.hid hnb
 have hcb : (cb : Int) ≤ 9223372036854775807 := by unfold maxLen at hcm; omega
 have hnbb : nb ≤ 262144 ∧ 64 ≤ nb := by omega
 clear hj h hrow hT hSB hbl hb1 hm hN hX hn hHB hnb hcm
 go_enter Tryz.func70, Tryz.ntmps70
 go_wp2_with fail
 refine (HL.out w (Mod.refl _ _)).mono ?_
 rintro e w0 ⟨rfl, hw0⟩
 obtain rfl : w = w0 := hw0.symm
 go_wp2_with fail
 clear c0
 go_loopw [10, 11] (fun v10 v11 wr => ∃ (k : Nat) (er : Int) (dk : DS), 1 ≤ k ∧ k ≤ m ∧ v11 = .int .i64 k ∧ v10 = .int .i64 er ∧ Hid ((er = 0 ∧ d.tails X b (m - 1) 1 = dk.tails X b (m - k) k) ∨ (er = 13 ∧ d.tails X b (m - 1) 1 = (dk, false))) ∧ Hid (IsRefIn wr (fun k => B k ∨ w.heap.size ≤ k) db dk) ∧ Hid (Mod (fun k => B k ∨ w.heap.size ≤ k) w wr) ∧ Hid (dk.lasts.length = d.lasts.length)) (fun _ v _ => m - (intOf v).toNat)
 case atStart => exact ⟨1, 0, d, by omega, by omega, by go_num, rfl, Lib.hid (.inl ⟨rfl, rfl⟩), Lib.hid (HD.out.mono (fun _ h => .inl h)), Lib.hid (Mod.refl _ _), Lib.hid rfl⟩
 case round =>
  obtain ⟨k, er, dk, hk1, hkm, rfl, rfl, HTL, HDK, HM, HLN⟩ := hrel
  rcases HTL.out with ⟨rfl, hte⟩ | ⟨rfl, hte⟩
  ·have HTE := Lib.hid hte
   clear hte HTL
   by_cases hlt : k < m
   ·obtain ⟨a, hax⟩ : ∃ a, 64 * k = a := ⟨_, rfl⟩
    obtain ⟨z, hz⟩ : ∃ z, a + 64 = z := ⟨_, rfl⟩
    obtain ⟨y, hy⟩ : ∃ y, X + k = y := ⟨_, rfl⟩
    have q1 : 64 * (k : Int) = (a : Int) := by omega
    have q2 : (a : Int) + 64 = (z : Int) := by omega
    have q3 : (X : Int) + (k : Int) = (y : Int) := by omega
    have r1 : IntKind.i64.wrap (64 * (k : Int)) = (a : Int) := by rw [q1, IntKind.wrap_i64]; omega
    have r2 : IntKind.i64.wrap ((a : Int) + 64) = (z : Int) := by rw [q2, IntKind.wrap_i64]; omega
    have r3 : IntKind.i64.wrap ((X : Int) + (k : Int)) = (y : Int) := by rw [q3, IntKind.wrap_i64]; omega
    have r4 : IntKind.i64.wrap (a : Int) = (a : Int) := by rw [IntKind.wrap_i64]; omega
    have r5 : IntKind.i64.wrap (z : Int) = (z : Int) := by rw [IntKind.wrap_i64]; omega
    have r6 : IntKind.i64.wrap (y : Int) = (y : Int) := by rw [IntKind.wrap_i64]; omega
    have hzn : z ≤ nb ∧ ¬ cb = a ∧ z ≤ cb ∧ a ≤ z ∧ z - a = 64 := by have := HNB.out; omega
    obtain ⟨hz1, hz2, hz3, hz4, hz5⟩ := hzn
    have hz6 : (z : Int) ≤ (cb : Int) ∧ (a : Int) ≤ (z : Int) := by omega
    have HROWR : Hid (IsRow T wr (.slice (some ⟨g, o, none⟩) nb cb) (bys b)) := Lib.hid (HROW.out.mod HM.out (fun j hj hT h => h.elim (HT.out j hT).2 (fun h => by omega)))
    have HWR := Lib.hid (fun W (mm : Mod nil wr W) => refWrite db (fun k => B k ∨ w.heap.size ≤ k) T dk (y : Int) _ (sectAt b k) W (HDK.out.mod mm (fun _ _ _ f => f)) (sect_row (HROWR.out.modNil mm) HBL.out k a z hax hz hz1) (fun j hj h => by have := HT.out j hj; rcases h with h | h; exact this.2 h; omega) (by unfold sectAt; rw [List.length_take]; omega))
    have HY := Lib.hid hy
    have HER := Lib.hid (write_err dk y (sectAt b k) (by rw [HLN.out]; have := HNL.out; omega) (by unfold sectAt; rw [List.length_take, List.length_drop, HBL.out]; omega))
    have hmr := HM.out
    have cj : wr.cell? ⟨jb, 0, none⟩ = some (.pointer (some ⟨db, 0, none⟩)) := HK.out wr HM.out
    clear hax hz hy
    go_upto_region 6 with (fail)
    refine wp_region_held_drew (S := (fun w' => w'.cell? ⟨jb, 0, none⟩ = some (.pointer (some ⟨db, 0, none⟩)))) (by kernel_rfl) (HK.out _ (by (repeat (first | assumption | exact Mod.refl _ _ | refine Mod.drew ?_)))) (fun hHeld => ?_)
    refine sH 0 ?_
    refine sH 1 ?_
    refine sH 2 ?_
    refine sH 3 ?_
    refine sH 4 ?_
    refine sH 5 ?_
    refine sH 6 ?_
    refine sH 7 ?_
    refine sH 8 ?_
    refine sH 9 ?_
    refine sH 10 ?_
    refine sH 11 ?_
    refine sH 12 ?_
    refine sH 13 ?_
    refine rH 14 (fun K hK => ?_)
    go_simp
    refine (HWR.out _ ?_).mono ?_
    ·(repeat (first | assumption | exact Mod.refl _ _ | refine Mod.drew ?_))
    rintro e w1 ⟨rfl, hd1, hm1⟩
    have hmw0 : Mod (fun k => B k ∨ w.heap.size ≤ k) wr w1 := ((show Mod nil wr _ from by (repeat (first | assumption | exact Mod.refl _ _ | refine Mod.drew ?_))).ofNil (S := (fun k => B k ∨ w.heap.size ≤ k))).trans hm1 (fun _ _ h => h)
    have hmw : Mod (fun k => B k ∨ w.heap.size ≤ k) w w1 := HM.out.trans hmw0 (fun _ _ h => h)
    have HD1 := Lib.hid hd1
    clear hd1 hm1
    refine hK.out _ _ (HK.out _ (by (repeat (first | assumption | exact Mod.refl _ _ | refine Mod.drew ?_)))) (fun hHeld => ?_)
    clear hK K
    (try simp only [Act.put, pT])
    refine sH 15 ?_
    refine wpAnyH_done (by kernel_rfl) ?_ _
    obtain ⟨⟨d2, e2⟩, hw2⟩ : ∃ x, dk.write (y : Int) (sectAt b k) = x := ⟨_, rfl⟩
    have her := HER.out
    have hln : (dk.write (y : Int) (sectAt b k)).1.lasts.length = d.lasts.length := by rw [DS.write_len, HLN.out]
    have htl : d.tails X b (m - 1) 1 = if e2 = 0 then d2.tails X b (m - (k + 1)) (k + 1) else (d2, false) := by
     rw [HTE.out, show m - k = (m - (k + 1)) + 1 by omega]
     by_cases he2 : e2 = 0
     ·rw [if_pos he2, DS.tails_go _ _ _ _ _ (by rw [HY.out, hw2]; exact he2), HY.out, hw2]
     ·rw [if_neg he2, DS.tails_stop _ _ _ _ _ (by rw [HY.out, hw2]; exact he2), HY.out, hw2]
    rw [hw2] at her HD1 hln ⊢
    simp only at her HD1 hln ⊢
    have HTLN : Hid ((e2 = 0 ∧ d.tails X b (m - 1) 1 = d2.tails X b (m - (k + 1)) (k + 1)) ∨ (e2 = 13 ∧ d.tails X b (m - 1) 1 = (d2, false))) := Lib.hid (by
     rcases her with h | h
     ·exact .inl ⟨h, by rw [htl, if_pos h]⟩
     ·exact .inr ⟨h, by rw [htl, if_neg (by omega)]⟩)
    have HDN : Hid (IsRefIn w1 (fun k => B k ∨ w.heap.size ≤ k) db d2) := Lib.hid (HD1.out.mono (fun k h => h.elim id (fun h => .inr (by have := HM.out.size; simp at h; omega))))
    have HMN := Lib.hid hmw
    have HLNN := Lib.hid hln
    clear her hln htl hw2 HD1 hmw hmw0 hHeld cj hmr q1 q2 q3 r1 r2 r3 r4 r5 r6 HWR
    go_wp2_with fail
    exact ⟨⟨k + 1, e2, d2, by omega, by omega, by go_num, rfl, HTLN, HDN, HMN, HLNN⟩, by simp [intOf]; omega⟩
   ·obtain rfl : k = m := by omega
    have HT1 : Hid (d.tails X b (k - 1) 1 = (dk, true)) := Lib.hid (by rw [HTE.out, Nat.sub_self]; rfl)
    have HLAY0 : Hid (d.lays X b k = dk.heads X b k) := Lib.hid (by unfold DS.lays; rw [HT1.out, if_pos rfl])
    have cj0 : wr.cell? ⟨jb, 0, none⟩ = some (.pointer (some ⟨db, 0, none⟩)) := HK.out wr HM.out
    by_cases hm1 : 1 < k
    ·have hgt : (64 : Int) < (nb : Int) := by have := HNB.out; omega
     have HSY := Lib.hid (refSync db (fun k => B k ∨ w.heap.size ≤ k) dk wr HDK.out)
     have hse := DS.sync_err dk
     go_wp2_with fail
     refine HSY.out.mono ?_
     have hly : d.lays X b k = _ := HLAY0.out
     unfold DS.heads at hly
     have hsl : dk.sync.1.lasts.length = d.lasts.length := by rw [DS.sync_len, HLN.out]
     obtain ⟨⟨d3, e3⟩, hs3⟩ : ∃ x, dk.sync = x := ⟨_, rfl⟩
     rw [hs3] at hse hly hsl ⊢
     simp only at hse hly hsl ⊢
     rintro e w3 ⟨rfl, hd3, hm3⟩
     have HD3 := Lib.hid hd3
     have HM3 := Lib.hid (HM.out.trans hm3 (fun _ _ h => h))
     have HLN3 := Lib.hid hsl
     clear hd3 hm3 hs3 HSY cj0 hsl
     rcases hse with rfl | rfl
     rotate_left
     ·have HLAY : Hid (d.lays X b k = (d3, false)) := Lib.hid (by rw [hly, if_pos ⟨hm1, by decide⟩])
      clear hly
      have hjW := HJ.out.mod HM3.out (fun k hk hs h => h.elim (HSB.out k hs hk) (fun h => by omega))
      obtain ⟨pp', cp', nr', pr', cr', hbj, -, -⟩ := id hjW.ex
      have k8 := cell_of hbj 8
      have z8 := free_of hbj 8
      simp only [List.getElem?_toArray, List.getElem?_cons_zero, List.getElem?_cons_succ] at k8
      have ms : Mod (· = jb) w3 (w3.setCell ⟨jb, 8, none⟩ (.bool true)) := (Mod.refl _ _).setCell _ _ (fun _ => rfl)
      have HE := Lib.hid (HPOST.out (.returned (.int .i64 13)) (w3.setCell ⟨jb, 8, none⟩ (.bool true)) ⟨by rw [HLAY.out]; rfl, by rw [HLAY.out]; simpa using hjW.downs, by rw [HLAY.out]; exact HD3.out.mod ms (fun k _ h e => by rw [e] at h; exact h.elim hjB (fun h => by omega)), (HM3.out.mono (fun k hk h => h.elim .inl (fun h => by omega))).trans ms (fun k _ e => .inr e)⟩)
      clear ms hbj hjW
      go_wp2_with fail
      exact HE.out
     have HLY : Hid (d.lays X b k = if (d3.write (X : Int) (sectAt b 0)).2 ≠ 0 then ((d3.write (X : Int) (sectAt b 0)).1, false) else ((d3.write (X : Int) (sectAt b 0)).1.sync.1, decide ((d3.write (X : Int) (sectAt b 0)).1.sync.2 = 0))) := Lib.hid (by rw [hly, if_neg (by simp), if_pos hm1])
     clear hly
     have HROWR : Hid (IsRow T w3 (.slice (some ⟨g, o, none⟩) nb cb) (bys b)) := Lib.hid (HROW.out.mod HM3.out (fun j hj hT h => h.elim (HT.out j hT).2 (fun h => by omega)))
     have hfr : ∀ V, Mod nil w3 V → IsRow T V (.slice (some ⟨g, o, none⟩) 64 cb) (bys (sectAt b 0)) := fun V mm => by
      have h := rowFront (HROWR.out.modNil mm) 64 (by rw [bys_length, HBL.out]; omega)
      rw [← bysTake] at h
      unfold sectAt
      rw [Nat.mul_zero, List.drop_zero]
      exact h
     have HWR := Lib.hid (fun V (mm : Mod nil w3 V) => refWrite db (fun k => B k ∨ w.heap.size ≤ k) T d3 (X : Int) _ (sectAt b 0) V (HD3.out.mod mm (fun _ _ _ f => f)) (hfr V mm) (fun j hj h => by have := HT.out j hj; rcases h with h | h; exact this.2 h; omega) (by unfold sectAt; rw [List.length_take]; omega))
     have HER := Lib.hid (write_err d3 X (sectAt b 0) (by rw [HLN3.out]; have := HNL.out; omega) (by unfold sectAt; rw [List.length_take, List.length_drop, HBL.out]; omega))
     have hmr := HM3.out
     have cj : w3.cell? ⟨jb, 0, none⟩ = some (.pointer (some ⟨db, 0, none⟩)) := HK.out w3 HM3.out
     have x64 : ¬ cb = 0 ∧ (64 : Int) ≤ (cb : Int) ∧ 64 ≤ cb := by omega
     obtain ⟨x64a, x64b, x64c⟩ := x64
     clear hfr
     go_upto_region 10 with (fail)
     refine wp_region_held_drew (S := (fun w' => w'.cell? ⟨jb, 0, none⟩ = some (.pointer (some ⟨db, 0, none⟩)))) (by kernel_rfl) (HK.out _ (by (repeat (first | assumption | exact Mod.refl _ _ | refine Mod.drew ?_)))) (fun hHeld => ?_)
     refine sH 0 ?_
     refine sH 1 ?_
     refine sH 2 ?_
     refine sH 3 ?_
     refine sH 4 ?_
     refine sH 5 ?_
     refine sH 6 ?_
     refine rH 7 (fun K hK => ?_)
     go_simp
     refine (HWR.out _ ?_).mono ?_
     ·(repeat (first | assumption | exact Mod.refl _ _ | refine Mod.drew ?_))
     rintro e w5 ⟨rfl, hd1, hm1⟩
     have hmw0 : Mod (fun k => B k ∨ w.heap.size ≤ k) w3 w5 := ((show Mod nil w3 _ from by (repeat (first | assumption | exact Mod.refl _ _ | refine Mod.drew ?_))).ofNil (S := (fun k => B k ∨ w.heap.size ≤ k))).trans hm1 (fun _ _ h => h)
     have hmw : Mod (fun k => B k ∨ w.heap.size ≤ k) w w5 := HM3.out.trans hmw0 (fun _ _ h => h)
     have HD1 := Lib.hid hd1
     clear hd1 hm1
     refine hK.out _ _ (HK.out _ (by (repeat (first | assumption | exact Mod.refl _ _ | refine Mod.drew ?_)))) (fun hHeld => ?_)
     clear hK K
     (try simp only [Act.put, pT])
     refine sH 8 ?_
     refine wpAnyH_done (by kernel_rfl) ?_ _
     obtain ⟨⟨d5, e5⟩, hw5⟩ : ∃ x, d3.write (X : Int) (sectAt b 0) = x := ⟨_, rfl⟩
     have her := HER.out
     have hhd := HLY.out
     rw [hw5] at her HD1 hhd ⊢
     simp only at her HD1 hhd ⊢
     have HD5 : Hid (IsRefIn w5 (fun k => B k ∨ w.heap.size ≤ k) db d5) := Lib.hid (HD1.out.mono (fun k h => h.elim id (fun h => .inr (by have := HM3.out.size; simp at h; omega))))
     have HM5 := Lib.hid hmw
     clear HD1 hw5 HER HWR hHeld hmw0 hmw cj hmr
     rcases her with rfl | rfl
     rotate_left
     ·have HLAY : Hid (d.lays X b k = (d5, false)) := Lib.hid (by rw [hhd, if_pos (by decide)])
      clear hhd
      have hjW := HJ.out.mod HM5.out (fun k hk hs h => h.elim (HSB.out k hs hk) (fun h => by omega))
      obtain ⟨pp', cp', nr', pr', cr', hbj, -, -⟩ := id hjW.ex
      have k8 := cell_of hbj 8
      have z8 := free_of hbj 8
      simp only [List.getElem?_toArray, List.getElem?_cons_zero, List.getElem?_cons_succ] at k8
      have ms : Mod (· = jb) w5 (w5.setCell ⟨jb, 8, none⟩ (.bool true)) := (Mod.refl _ _).setCell _ _ (fun _ => rfl)
      have HE := Lib.hid (HPOST.out (.returned (.int .i64 13)) (w5.setCell ⟨jb, 8, none⟩ (.bool true)) ⟨by rw [HLAY.out]; rfl, by rw [HLAY.out]; simpa using hjW.downs, by rw [HLAY.out]; exact HD5.out.mod ms (fun k _ h e => by rw [e] at h; exact h.elim hjB (fun h => by omega)), (HM5.out.mono (fun k hk h => h.elim .inl (fun h => by omega))).trans ms (fun k _ e => .inr e)⟩)
      clear ms hbj hjW
      go_wp2_with fail
      exact HE.out
     have cj5 : w5.cell? ⟨jb, 0, none⟩ = some (.pointer (some ⟨db, 0, none⟩)) := HK.out w5 HM5.out
     rw [if_neg (by decide)] at hhd
     have HHD := Lib.hid hhd
     have HSY := Lib.hid (refSync db (fun k => B k ∨ w.heap.size ≤ k) d5 w5 HD5.out)
     have hse := DS.sync_err d5
     clear hhd
     go_wp2_with fail
     refine HSY.out.mono ?_
     obtain ⟨⟨d6, e6⟩, hs6⟩ : ∃ x, d5.sync = x := ⟨_, rfl⟩
     have hhd := HHD.out
     rw [hs6] at hse hhd ⊢
     simp only at hse hhd ⊢
     rintro e w6 ⟨rfl, hd6, hm6⟩
     have HD6 := Lib.hid hd6
     have HM6 := Lib.hid (HM5.out.trans hm6 (fun _ _ h => h))
     clear hd6 hm6 hs6 HSY HHD cj5
     rcases hse with rfl | rfl
     ·have HLAY : Hid (d.lays X b k = (d6, true)) := Lib.hid (by rw [hhd]; rfl)
      clear hhd
      have hjW := HJ.out.mod HM6.out (fun k hk hs h => h.elim (HSB.out k hs hk) (fun h => by omega))
      have HE := Lib.hid (HPOST.out (.returned (.int .i64 0)) w6 ⟨by rw [HLAY.out]; rfl, by rw [HLAY.out]; simpa using hjW, by rw [HLAY.out]; exact HD6.out, HM6.out.mono (fun k hk h => h.elim .inl (fun h => by omega))⟩)
      clear hjW
      go_wp2_with fail
      exact HE.out
     ·have HLAY : Hid (d.lays X b k = (d6, false)) := Lib.hid (by rw [hhd]; rfl)
      clear hhd
      have hjW := HJ.out.mod HM6.out (fun k hk hs h => h.elim (HSB.out k hs hk) (fun h => by omega))
      obtain ⟨pp', cp', nr', pr', cr', hbj, -, -⟩ := id hjW.ex
      have k8 := cell_of hbj 8
      have z8 := free_of hbj 8
      simp only [List.getElem?_toArray, List.getElem?_cons_zero, List.getElem?_cons_succ] at k8
      have ms : Mod (· = jb) w6 (w6.setCell ⟨jb, 8, none⟩ (.bool true)) := (Mod.refl _ _).setCell _ _ (fun _ => rfl)
      have HE := Lib.hid (HPOST.out (.returned (.int .i64 13)) (w6.setCell ⟨jb, 8, none⟩ (.bool true)) ⟨by rw [HLAY.out]; rfl, by rw [HLAY.out]; simpa using hjW.downs, by rw [HLAY.out]; exact HD6.out.mod ms (fun k _ h e => by rw [e] at h; exact h.elim hjB (fun h => by omega)), (HM6.out.mono (fun k hk h => h.elim .inl (fun h => by omega))).trans ms (fun k _ e => .inr e)⟩)
      clear ms hbj hjW
      go_wp2_with fail
      exact HE.out
    ·have hgt : ¬ (64 : Int) < (nb : Int) := by have := HNB.out; omega
     have HLN3 := HLN
     have HLY : Hid (d.lays X b k = if (dk.write (X : Int) (sectAt b 0)).2 ≠ 0 then ((dk.write (X : Int) (sectAt b 0)).1, false) else ((dk.write (X : Int) (sectAt b 0)).1.sync.1, decide ((dk.write (X : Int) (sectAt b 0)).1.sync.2 = 0))) := Lib.hid (by
      rw [HLAY0.out]
      unfold DS.heads
      rw [if_neg (fun h => hm1 h.1), if_neg hm1])
     clear cj0 hm1
     have HROWR : Hid (IsRow T wr (.slice (some ⟨g, o, none⟩) nb cb) (bys b)) := Lib.hid (HROW.out.mod HM.out (fun j hj hT h => h.elim (HT.out j hT).2 (fun h => by omega)))
     have hfr : ∀ V, Mod nil wr V → IsRow T V (.slice (some ⟨g, o, none⟩) 64 cb) (bys (sectAt b 0)) := fun V mm => by
      have h := rowFront (HROWR.out.modNil mm) 64 (by rw [bys_length, HBL.out]; omega)
      rw [← bysTake] at h
      unfold sectAt
      rw [Nat.mul_zero, List.drop_zero]
      exact h
     have HWR := Lib.hid (fun V (mm : Mod nil wr V) => refWrite db (fun k => B k ∨ w.heap.size ≤ k) T dk (X : Int) _ (sectAt b 0) V (HDK.out.mod mm (fun _ _ _ f => f)) (hfr V mm) (fun j hj h => by have := HT.out j hj; rcases h with h | h; exact this.2 h; omega) (by unfold sectAt; rw [List.length_take]; omega))
     have HER := Lib.hid (write_err dk X (sectAt b 0) (by rw [HLN3.out]; have := HNL.out; omega) (by unfold sectAt; rw [List.length_take, List.length_drop, HBL.out]; omega))
     have hmr := HM.out
     have cj : wr.cell? ⟨jb, 0, none⟩ = some (.pointer (some ⟨db, 0, none⟩)) := HK.out wr HM.out
     have x64 : ¬ cb = 0 ∧ (64 : Int) ≤ (cb : Int) ∧ 64 ≤ cb := by omega
     obtain ⟨x64a, x64b, x64c⟩ := x64
     clear hfr
     go_upto_region 10 with (fail)
     refine wp_region_held_drew (S := (fun w' => w'.cell? ⟨jb, 0, none⟩ = some (.pointer (some ⟨db, 0, none⟩)))) (by kernel_rfl) (HK.out _ (by (repeat (first | assumption | exact Mod.refl _ _ | refine Mod.drew ?_)))) (fun hHeld => ?_)
     refine sH 0 ?_
     refine sH 1 ?_
     refine sH 2 ?_
     refine sH 3 ?_
     refine sH 4 ?_
     refine sH 5 ?_
     refine sH 6 ?_
     refine rH 7 (fun K hK => ?_)
     go_simp
     refine (HWR.out _ ?_).mono ?_
     ·(repeat (first | assumption | exact Mod.refl _ _ | refine Mod.drew ?_))
     rintro e w5 ⟨rfl, hd1, hm1⟩
     have hmw0 : Mod (fun k => B k ∨ w.heap.size ≤ k) wr w5 := ((show Mod nil wr _ from by (repeat (first | assumption | exact Mod.refl _ _ | refine Mod.drew ?_))).ofNil (S := (fun k => B k ∨ w.heap.size ≤ k))).trans hm1 (fun _ _ h => h)
     have hmw : Mod (fun k => B k ∨ w.heap.size ≤ k) w w5 := HM.out.trans hmw0 (fun _ _ h => h)
     have HD1 := Lib.hid hd1
     clear hd1 hm1
     refine hK.out _ _ (HK.out _ (by (repeat (first | assumption | exact Mod.refl _ _ | refine Mod.drew ?_)))) (fun hHeld => ?_)
     clear hK K
     (try simp only [Act.put, pT])
     refine sH 8 ?_
     refine wpAnyH_done (by kernel_rfl) ?_ _
     obtain ⟨⟨d5, e5⟩, hw5⟩ : ∃ x, dk.write (X : Int) (sectAt b 0) = x := ⟨_, rfl⟩
     have her := HER.out
     have hhd := HLY.out
     rw [hw5] at her HD1 hhd ⊢
     simp only at her HD1 hhd ⊢
     have HD5 : Hid (IsRefIn w5 (fun k => B k ∨ w.heap.size ≤ k) db d5) := Lib.hid (HD1.out.mono (fun k h => h.elim id (fun h => .inr (by have := HM.out.size; simp at h; omega))))
     have HM5 := Lib.hid hmw
     clear HD1 hw5 HER HWR hHeld hmw0 hmw cj hmr
     rcases her with rfl | rfl
     rotate_left
     ·have HLAY : Hid (d.lays X b k = (d5, false)) := Lib.hid (by rw [hhd, if_pos (by decide)])
      clear hhd
      have hjW := HJ.out.mod HM5.out (fun k hk hs h => h.elim (HSB.out k hs hk) (fun h => by omega))
      obtain ⟨pp', cp', nr', pr', cr', hbj, -, -⟩ := id hjW.ex
      have k8 := cell_of hbj 8
      have z8 := free_of hbj 8
      simp only [List.getElem?_toArray, List.getElem?_cons_zero, List.getElem?_cons_succ] at k8
      have ms : Mod (· = jb) w5 (w5.setCell ⟨jb, 8, none⟩ (.bool true)) := (Mod.refl _ _).setCell _ _ (fun _ => rfl)
      have HE := Lib.hid (HPOST.out (.returned (.int .i64 13)) (w5.setCell ⟨jb, 8, none⟩ (.bool true)) ⟨by rw [HLAY.out]; rfl, by rw [HLAY.out]; simpa using hjW.downs, by rw [HLAY.out]; exact HD5.out.mod ms (fun k _ h e => by rw [e] at h; exact h.elim hjB (fun h => by omega)), (HM5.out.mono (fun k hk h => h.elim .inl (fun h => by omega))).trans ms (fun k _ e => .inr e)⟩)
      clear ms hbj hjW
      go_wp2_with fail
      exact HE.out
     have cj5 : w5.cell? ⟨jb, 0, none⟩ = some (.pointer (some ⟨db, 0, none⟩)) := HK.out w5 HM5.out
     rw [if_neg (by decide)] at hhd
     have HHD := Lib.hid hhd
     have HSY := Lib.hid (refSync db (fun k => B k ∨ w.heap.size ≤ k) d5 w5 HD5.out)
     have hse := DS.sync_err d5
     clear hhd
     go_wp2_with fail
     refine HSY.out.mono ?_
     obtain ⟨⟨d6, e6⟩, hs6⟩ : ∃ x, d5.sync = x := ⟨_, rfl⟩
     have hhd := HHD.out
     rw [hs6] at hse hhd ⊢
     simp only at hse hhd ⊢
     rintro e w6 ⟨rfl, hd6, hm6⟩
     have HD6 := Lib.hid hd6
     have HM6 := Lib.hid (HM5.out.trans hm6 (fun _ _ h => h))
     clear hd6 hm6 hs6 HSY HHD cj5
     rcases hse with rfl | rfl
     ·have HLAY : Hid (d.lays X b k = (d6, true)) := Lib.hid (by rw [hhd]; rfl)
      clear hhd
      have hjW := HJ.out.mod HM6.out (fun k hk hs h => h.elim (HSB.out k hs hk) (fun h => by omega))
      have HE := Lib.hid (HPOST.out (.returned (.int .i64 0)) w6 ⟨by rw [HLAY.out]; rfl, by rw [HLAY.out]; simpa using hjW, by rw [HLAY.out]; exact HD6.out, HM6.out.mono (fun k hk h => h.elim .inl (fun h => by omega))⟩)
      clear hjW
      go_wp2_with fail
      exact HE.out
     ·have HLAY : Hid (d.lays X b k = (d6, false)) := Lib.hid (by rw [hhd]; rfl)
      clear hhd
      have hjW := HJ.out.mod HM6.out (fun k hk hs h => h.elim (HSB.out k hs hk) (fun h => by omega))
      obtain ⟨pp', cp', nr', pr', cr', hbj, -, -⟩ := id hjW.ex
      have k8 := cell_of hbj 8
      have z8 := free_of hbj 8
      simp only [List.getElem?_toArray, List.getElem?_cons_zero, List.getElem?_cons_succ] at k8
      have ms : Mod (· = jb) w6 (w6.setCell ⟨jb, 8, none⟩ (.bool true)) := (Mod.refl _ _).setCell _ _ (fun _ => rfl)
      have HE := Lib.hid (HPOST.out (.returned (.int .i64 13)) (w6.setCell ⟨jb, 8, none⟩ (.bool true)) ⟨by rw [HLAY.out]; rfl, by rw [HLAY.out]; simpa using hjW.downs, by rw [HLAY.out]; exact HD6.out.mod ms (fun k _ h e => by rw [e] at h; exact h.elim hjB (fun h => by omega)), (HM6.out.mono (fun k hk h => h.elim .inl (fun h => by omega))).trans ms (fun k _ e => .inr e)⟩)
      clear ms hbj hjW
      go_wp2_with fail
      exact HE.out
  ·have HLAY : Hid (d.lays X b m = (dk, false)) := Lib.hid (by unfold DS.lays; rw [hte, if_neg (by simp)])
   clear hte HTL
   by_cases hlt : k < m
   all_goals
    have hjW := HJ.out.mod HM.out (fun k hk hs h => h.elim (HSB.out k hs hk) (fun h => by omega))
    obtain ⟨pp', cp', nr', pr', cr', hbj, -, -⟩ := id hjW.ex
    have k8 := cell_of hbj 8
    have z8 := free_of hbj 8
    simp only [List.getElem?_toArray, List.getElem?_cons_zero, List.getElem?_cons_succ] at k8
    have ms : Mod (· = jb) wr (wr.setCell ⟨jb, 8, none⟩ (.bool true)) := (Mod.refl _ _).setCell _ _ (fun _ => rfl)
    have HE := Lib.hid (HPOST.out (.returned (.int .i64 13)) (wr.setCell ⟨jb, 8, none⟩ (.bool true)) ⟨by rw [HLAY.out]; rfl, by rw [HLAY.out]; simpa using hjW.downs, by rw [HLAY.out]; exact HDK.out.mod ms (fun k _ h e => by rw [e] at h; exact h.elim hjB (fun h => by omega)), (HM.out.mono (fun k hk h => h.elim .inl (fun h => by omega))).trans ms (fun k _ e => .inr e)⟩)
    clear ms hbj hjW
    go_wp2_with fail
    exact HE.out
end Go.Proofs.YtdfahddpkkeldaaGreat

/- cflref6: the journal: Append. (Printed by wip/tools/gen_sixappend.py.) -/
namespace Go.Proofs.YtdfahddpkkeldaaGreat
open Go.RowKit
theorem IsRefIn.here {w : World} {B : Nat → Prop} {b : Nat} {d : DS} (h : IsRefIn w B b d) : IsRefIn w (fun k => B k ∧ k < w.heap.size) b d := by
 obtain ⟨P1, P2, P3, v1, v2, v3, h, hb, hB⟩ := h
 exact ⟨fun k => P1 k ∧ k < w.heap.size, fun k => P2 k ∧ k < w.heap.size, fun k => P3 k ∧ k < w.heap.size, v1, v2, v3,
  { h with now := h.now.trim, last := h.last.trim, pend := h.pend.trim, p1 := fun x => h.p1 x.1, p2 := fun x => h.p2 x.1, p3 := fun x => h.p3 x.1, p12 := fun k x y => h.p12 k x.1 y.1, p13 := fun k x y => h.p13 k x.1 y.1, p23 := fun k x y => h.p23 k x.1 y.1 },
  ⟨hb, heap_lt h.obj⟩, fun k hk => by rcases hk with hk | hk | hk; exact ⟨hB k (.inl hk.1), hk.2⟩; exact ⟨hB k (.inr (.inl hk.1)), hk.2⟩; exact ⟨hB k (.inr (.inr hk.1)), hk.2⟩⟩
theorem IsRJ.here {S : Nat → Prop} {w : World} {jb db : Nat} {s : JS} (h : IsRJ S w jb db s) : IsRJ (fun k => S k ∧ k < w.heap.size) w jb db s := h.mono (fun _ hk h => ⟨h, hk⟩)
/-- the reference's journal over its disk: all of their blocks are in F; they share none -/
def IsRJD (F : Nat → Prop) (w : World) (jb db : Nat) (s : JS) (d : DS) : Prop := ∃ S B, IsRJ S w jb db s ∧ IsRefIn w B db d ∧ (∀ k, S k → ¬ B k) ∧ ∀ k, S k ∨ B k → F k ∧ k < w.heap.size
theorem IsRJD.mod {F T : Nat → Prop} {w w' : World} {jb db : Nat} {s : JS} {d : DS} (h : IsRJD F w jb db s d) (m : Mod T w w') (hs : ∀ k, k < w.heap.size → F k → ¬ T k) : IsRJD F w' jb db s d := by
 obtain ⟨S, B, h1, h2, h3, h4⟩ := h
 exact ⟨S, B, h1.mod m (fun k hk h => hs k hk (h4 k (.inl h)).1), h2.mod m (fun k hk h => hs k hk (h4 k (.inr h)).1), h3, fun k h => ⟨(h4 k h).1, Nat.lt_of_lt_of_le (h4 k h).2 m.size⟩⟩
theorem IsRJD.modNil {F : Nat → Prop} {w w' : World} {jb db : Nat} {s : JS} {d : DS} (h : IsRJD F w jb db s d) (m : Mod nil w w') : IsRJD F w' jb db s d := h.mod m (fun _ _ _ f => f)
theorem IsRJD.mono {F G : Nat → Prop} {w : World} {jb db : Nat} {s : JS} {d : DS} (h : IsRJD F w jb db s d) (hs : ∀ k, k < w.heap.size → F k → G k) : IsRJD G w jb db s d := by
 obtain ⟨S, B, h1, h2, h3, h4⟩ := h
 exact ⟨S, B, h1, h2, h3, fun k h => ⟨hs k (h4 k h).2 (h4 k h).1, (h4 k h).2⟩⟩
set_option maxRecDepth 100000 in
set_option maxHeartbeats 8000000 in
theorem sixAppend (F T : Nat → Prop) (jb db nb cb : Nat) (pb : Option Addr) (b : List UInt8) (s : JS) (d : DS) (w : World) (h : IsRJD F w jb db s d) (hl : s.Lim (d.lasts.length / 2)) (hrow : IsRow T w (.slice pb nb cb) (bys b)) (hT : ∀ k, T k → k < w.heap.size ∧ ¬ F k) (hcap : nb ≤ cb) (hcm : cb ≤ maxLen) :
  Calls Tryz.prog 38 #[.pointer (some ⟨jb, 0, none⟩), .slice pb nb cb] w fun e w' => e = .returned (.int .i64 (s.appends d b).2.2) ∧ IsRJD (fun k => F k ∨ w.heap.size ≤ k) w' jb db (s.appends d b).1 (s.appends d b).2.1 ∧ Mod F w w' := by
 refine (?_ : ∀ Post : Ending → World → Prop, Hid (∀ e w', (e = .returned (.int .i64 (s.appends d b).2.2) ∧ IsRJD (fun k => F k ∨ w.heap.size ≤ k) w' jb db (s.appends d b).1 (s.appends d b).2.1 ∧ Mod F w w') → Post e w') → Calls Tryz.prog 38 #[.pointer (some ⟨jb, 0, none⟩), .slice pb nb cb] w Post) _ (Lib.hid (fun _ _ h => h))
 intro Post HPOST
 have hbl : b.length = nb := by
  obtain ⟨_, _, h, _⟩ := hrow
  simp only [Value.slice.injEq, bys_length] at h
  exact h.2.1.symm
 have HH := Lib.hid h
 obtain ⟨S, B, hj, hd, hSB, hF⟩ := h
 obtain ⟨pp, cp, nr, pr, cr, hb1, -, -⟩ := id hj.ex
 obtain ⟨P1, P2, P3, v1, v2, v3, hda, -, -⟩ := id hd
 have c0 := cell_of hb1 0
 have c8 := cell_of hb1 8
 have z8 := free_of hb1 8
 have d4 := cell_of hda.obj 4
 simp only [List.getElem?_toArray, List.getElem?_cons_zero, List.getElem?_cons_succ] at c0 c8 d4
 have HJ := Lib.hid hj
 have HD := Lib.hid hd
 have HSB := Lib.hid hSB
 have HF := Lib.hid hF
 have HROW := Lib.hid hrow
 have HT := Lib.hid hT
 have HBL := Lib.hid hbl
 have HLIM := Lib.hid hl
 obtain ⟨sd, hsd⟩ : ∃ x, s.down = x := ⟨_, rfl⟩
 obtain ⟨dd, hdd⟩ : ∃ x, d.down = x := ⟨_, rfl⟩
 rw [hsd] at c8
 rw [hdd] at d4
 have HSD := Lib.hid hsd
 have HDD := Lib.hid hdd
 obtain ⟨gn, hgn⟩ : ∃ x, s.gen = x := ⟨_, rfl⟩
 obtain ⟨rn, hrn⟩ : ∃ x, s.recs.length = x := ⟨_, rfl⟩
 have hjl := heap_lt hb1
 have HK4 : Hid (∀ W, Mod nil w W → (fun w' => w'.cell? ⟨jb, 2, none⟩ = some (.int .i64 (gn : Int)) ∧ w'.cell? ⟨jb, 7, none⟩ = some (.int .i64 ((rn + 1 : Nat) : Int))) W) := Lib.hid (fun W m => by
  have e := m.keep hb1
  rw [hgn, hrn] at e
  exact ⟨cell_of e 2, cell_of e 7⟩)
 have HGN := Lib.hid hgn
 have HRN := Lib.hid hrn
 have HBAD : Hid (s.down = true ∨ d.down = true → Post (.returned (.int .i64 13)) (w.setCell ⟨jb, 8, none⟩ (.bool true))) := Lib.hid (fun hdn => by
  have ha : s.appends d b = ({ s with down := true }, d, 13) := by unfold JS.appends; rw [if_pos (by rcases hdn with h | h <;> simp [h])]
  have ms : Mod (· = jb) w (w.setCell ⟨jb, 8, none⟩ (.bool true)) := (Mod.refl _ _).setCell _ _ (fun _ => rfl)
  refine HPOST.out _ _ ⟨by rw [ha], ?_, ms.mono (fun k _ e => by rw [e]; exact (hF jb (.inl hj.lo)).1)⟩
  rw [ha]
  exact ⟨S, B, hj.downs, hd.mod ms (fun k _ hB e => by rw [e] at hB; exact hSB jb hj.lo hB), hSB, fun k hk => ⟨.inl (hF k hk).1, by simp; exact (hF k hk).2⟩⟩)
 clear hj hd hSB hF hb1 hda hrow hT hbl hl hsd hdd hgn hrn
 cases sd with
 | true =>
  have HE := Lib.hid (HBAD.out (.inl HSD.out))
  go_enter Tryz.func38, Tryz.ntmps38
  go_wp2_with fail
  exact HE.out
 | false =>
  cases dd with
  | true =>
   have HE := Lib.hid (HBAD.out (.inr HDD.out))
   go_enter Tryz.func38, Tryz.ntmps38
   go_wp2_with fail
   exact HE.out
  | false =>
   have hup : ¬ ((s.down || d.down) = true) := by rw [HSD.out, HDD.out]; decide
   have HUP := Lib.hid hup
   clear hup HBAD z8
   by_cases hlong : 60000 < nb
   ·have HLONG := Lib.hid (fun W (m : Mod nil w W) => sixPutLong nb cb pb 2 (gn : Int) ((rn + 1 : Nat) : Int) W hlong)
    have HA : Hid (s.appends d b = (s, d, 3)) := Lib.hid (by unfold JS.appends; rw [if_neg HUP.out, if_pos (by rw [HBL.out]; exact hlong)])
    clear hlong
    go_enter Tryz.func38, Tryz.ntmps38
    go_upto_region 4 with (fail)
    have k0 := (HK4.out w (Mod.refl _ _)).1
    have k1 := (HK4.out w (Mod.refl _ _)).2
    refine wp_region_held_drew (S := (fun w' => w'.cell? ⟨jb, 2, none⟩ = some (.int .i64 (gn : Int)) ∧ w'.cell? ⟨jb, 7, none⟩ = some (.int .i64 ((rn + 1 : Nat) : Int)))) (by kernel_rfl) (HK4.out _ (by (repeat (first | assumption | exact Mod.refl _ _ | refine Mod.drew ?_)))) (fun hHeld => ?_)
    refine sH 0 ?_
    refine sH 1 ?_
    refine sH 2 ?_
    refine sH 3 ?_
    refine sH 4 ?_
    refine sH 5 ?_
    refine sH 6 ?_
    refine sH 7 ?_
    refine sH 8 ?_
    refine sH 9 ?_
    refine rH 10 (fun K hK => ?_)
    go_simp
    refine (HLONG.out _ ?_).mono ?_
    ·(repeat (first | assumption | exact Mod.refl _ _ | refine Mod.drew ?_))
    rintro e w1 ⟨rfl, hmp⟩
    have hm1 : Mod nil w w1 := (show Mod nil w _ from by (repeat (first | assumption | exact Mod.refl _ _ | refine Mod.drew ?_))).thenNil hmp
    clear hmp
    refine hK.out _ _ (HK4.out _ (by (repeat (first | assumption | exact Mod.refl _ _ | refine Mod.drew ?_)))) (fun hHeld => ?_)
    clear hK K
    (try simp only [Act.put, pT])
    refine sH 11 ?_
    refine sH 12 ?_
    refine sH 13 ?_
    refine sH 14 ?_
    refine sH 15 ?_
    refine wpAnyH_done (by kernel_rfl) ?_ _
    have HE := Lib.hid (HPOST.out (.returned (.int .i64 3)) w1 ⟨by rw [HA.out], by rw [HA.out]; exact (HH.out.modNil hm1).mono (fun _ _ h => .inl h), hm1.ofNil⟩)
    clear hHeld hm1 k0 k1
    go_wp2_with fail
    exact HE.out
   ·obtain ⟨m, hm⟩ : ∃ m, sectorsF nb = m := ⟨_, rfl⟩
    obtain ⟨hl1, hl2, hl3, hl4⟩ := HLIM.out
    have hroom := HD.out.room
    obtain ⟨N, hN⟩ : ∃ N, d.lasts.length / 2 = N := ⟨_, rfl⟩
    have hN4 : N ≤ 4096 := by omega
    obtain ⟨at_, hat⟩ : ∃ a, s.at_ = a := ⟨_, rfl⟩
    obtain ⟨hf, hhf⟩ : ∃ a, s.half = a := ⟨_, rfl⟩
    have hput := fun W (mm : Mod nil w W) => sixPut 2 gn (rn + 1) nb cb pb (fun k => k < W.heap.size) b W ((HROW.out.modNil mm).here.mono (fun k _ h => h.2)) (fun k h => h) (by omega) (by rw [← HGN.out]; exact hl2) (by rw [← HRN.out]; omega) (by omega)
    rw [hm] at hput
    obtain ⟨M, hM⟩ : ∃ M, 64 * m = M := ⟨_, rfl⟩
    rw [hM] at hput
    have HPUT := Lib.hid hput
    obtain ⟨PF, hPF⟩ : ∃ x, putF 2 gn (rn + 1) b = x := ⟨_, rfl⟩
    rw [hPF] at HPUT
    have HPFL : Hid (PF.length = M) := Lib.hid (by rw [← hPF, putF_length, HBL.out, hm, hM])
    have hm1 : 1 ≤ m ∧ m ≤ 1000 := by rw [← hm]; unfold sectorsF; omega
    have hMd : (M : Int) / 64 = (m : Int) := by omega
    obtain ⟨R, hR⟩ : ∃ R, N - at_ = R := ⟨_, rfl⟩
    have HROOM := Lib.hid (fun W (mm : Mod nil w W) => sixRoom S B jb db s d W (HJ.out.modNil mm) (HD.out.mod mm (fun _ _ _ f => f)) hl4)
    rw [hN, hat, hR] at HROOM
    have HMM := Lib.hid hm
    have HMD := Lib.hid hM
    have HNN := Lib.hid hN
    have HAT := Lib.hid hat
    have HHF := Lib.hid hhf
    have HPF := Lib.hid hPF
    have HRR := Lib.hid hR
    have hatN : at_ ≤ N := by rw [← hat, ← hN]; exact hl4
    have hhf1 : hf ≤ 1 := by rw [← hhf]; exact hl1
    clear hput hm hM hPF hR hl1 hl2 hl3 hl4 hroom hN hat hhf
    go_enter Tryz.func38, Tryz.ntmps38
    go_upto_region 4 with (fail)
    have k0 := (HK4.out w (Mod.refl _ _)).1
    have k1 := (HK4.out w (Mod.refl _ _)).2
    refine wp_region_held_drew (S := (fun w' => w'.cell? ⟨jb, 2, none⟩ = some (.int .i64 (gn : Int)) ∧ w'.cell? ⟨jb, 7, none⟩ = some (.int .i64 ((rn + 1 : Nat) : Int)))) (by kernel_rfl) (HK4.out _ (by (repeat (first | assumption | exact Mod.refl _ _ | refine Mod.drew ?_)))) (fun hHeld => ?_)
    refine sH 0 ?_
    refine sH 1 ?_
    refine sH 2 ?_
    refine sH 3 ?_
    refine sH 4 ?_
    refine sH 5 ?_
    refine sH 6 ?_
    refine sH 7 ?_
    refine sH 8 ?_
    refine sH 9 ?_
    refine rH 10 (fun K hK => ?_)
    go_simp
    refine (HPUT.out _ ?_).mono ?_
    ·(repeat (first | assumption | exact Mod.refl _ _ | refine Mod.drew ?_))
    rintro e w1 ⟨p1, c1, rfl, hv1, hmp⟩
    have hm1_ : Mod nil w w1 := (show Mod nil w _ from by (repeat (first | assumption | exact Mod.refl _ _ | refine Mod.drew ?_))).thenNil hmp
    have HV1 := Lib.hid hv1
    clear hmp hv1
    refine hK.out _ _ (HK4.out _ (by (repeat (first | assumption | exact Mod.refl _ _ | refine Mod.drew ?_)))) (fun hHeld => ?_)
    clear hK K
    (try simp only [Act.put, pT])
    refine sH 11 ?_
    refine sH 12 ?_
    refine sH 13 ?_
    refine sH 14 ?_
    refine sH 15 ?_
    refine wpAnyH_done (by kernel_rfl) ?_ _
    have HM1 := Lib.hid hm1_
    clear hHeld hm1_ k0 k1
    go_wp2_with fail
    refine (HROOM.out w1 HM1.out).mono ?_
    rintro e w2 ⟨rfl, hm2⟩
    have HM2 := Lib.hid (HM1.out.thenNil hm2)
    have HV2 := Lib.hid (HV1.out.modNil hm2)
    have hs1 : w.heap.size ≤ w1.heap.size ∧ w1.heap.size ≤ w2.heap.size := ⟨HM1.out.size, hm2.size⟩
    clear hm2
    by_cases hfit : R < m
    ·have HA : Hid (s.appends d b = (s, d, 12)) := Lib.hid (by unfold JS.appends; rw [if_neg HUP.out, if_neg (by rw [HBL.out]; exact hlong), if_pos (by rw [HNN.out, HAT.out, HBL.out, HMM.out]; have := HRR.out; omega)])
     have HE := Lib.hid (HPOST.out (.returned (.int .i64 12)) w2 ⟨by rw [HA.out], by rw [HA.out]; exact (HH.out.modNil HM2.out).mono (fun _ _ h => .inl h), HM2.out.ofNil⟩)
     go_wp2_with fail
     exact HE.out
    ·obtain ⟨X, hX⟩ : ∃ X, hf * N + at_ = X := ⟨_, rfl⟩
     have hcv : M ≤ c1 ∧ c1 ≤ maxLen := by
      obtain ⟨p', c', h, q1, q2⟩ := vecCap HV2.out
      simp only [Value.slice.injEq] at h
      obtain ⟨-, -, rfl⟩ := h
      exact ⟨q1, q2⟩
     have hj2 := HJ.out.modNil HM2.out
     have hd2 := HD.out.mod HM2.out (fun _ _ _ f => f)
     have HLAYC := Lib.hid (fun W (mm : Mod nil w2 W) => sixLay S B (fun k => w.heap.size ≤ k ∧ k < w2.heap.size) jb db hf at_ m N X M c1 p1 PF s d W (hj2.modNil mm) (hd2.mod mm (fun _ _ _ f => f)) (fun k hk _ => HSB.out k hk) ((HV2.out.row.mono (T := fun k => w.heap.size ≤ k ∧ k < w2.heap.size) (fun k hk h => ⟨by simpa using h, hk⟩)).modNil mm) (fun k hk => ⟨Nat.lt_of_lt_of_le hk.2 mm.size, fun hB => by have := (HF.out k (.inr hB)).2; omega⟩) hcv.1 hcv.2 (by rw [HPFL.out, HMD.out]) hm1.1 HNN.out hhf1 (by have := HRR.out; omega) hX)
     obtain ⟨⟨dl, ok⟩, hly⟩ : ∃ x, d.lays X PF m = x := ⟨_, rfl⟩
     rw [hly] at HLAYC
     simp only at HLAYC
     have HLY : Hid (d.lays (s.half * (d.lasts.length / 2) + s.at_) (putF 2 s.gen (s.recs.length + 1) b) (sectorsF b.length) = (dl, ok)) := Lib.hid (by rw [HHF.out, HNN.out, HAT.out, HGN.out, HRN.out, HPF.out, HBL.out, HMM.out, hX, hly])
     have HK9 : Hid (∀ W, Mod nil w2 W → (fun w' => w'.cell? ⟨jb, 1, none⟩ = some (.int .i64 (hf : Int)) ∧ w'.cell? ⟨jb, 6, none⟩ = some (.int .i64 (at_ : Int))) W) := Lib.hid (fun W mm => by
      obtain ⟨_, _, _, _, _, e, -, -⟩ := (hj2.modNil mm).ex
      rw [HHF.out, HAT.out] at e
      exact ⟨cell_of e 1, cell_of e 6⟩)
     have j0 := (HK9.out w2 (Mod.refl _ _)).1
     have j1 := (HK9.out w2 (Mod.refl _ _)).2
     have HNF : Hid (¬ d.lasts.length / 2 < s.at_ + sectorsF b.length) := Lib.hid (by rw [HNN.out, HAT.out, HBL.out, HMM.out]; have := HRR.out; omega)
     have hfit' : ¬ R < m := hfit
     clear hcv hj2 hd2 hly hX
     go_upto_region 9 with (fail)
     refine wp_region_held_drew (S := (fun w' => w'.cell? ⟨jb, 1, none⟩ = some (.int .i64 (hf : Int)) ∧ w'.cell? ⟨jb, 6, none⟩ = some (.int .i64 (at_ : Int)))) (by kernel_rfl) ((by first | exact HK93.out | exact HK9.out _ (by (repeat (first | assumption | exact Mod.refl _ _ | refine Mod.drew ?_))))) (fun hHeld => ?_)
     refine sH 0 ?_
     refine sH 1 ?_
     refine sH 2 ?_
     refine sH 3 ?_
     refine sH 4 ?_
     refine sH 5 ?_
     refine sH 6 ?_
     refine sH 7 ?_
     refine sH 8 ?_
     refine sH 9 ?_
     refine rH 10 (fun K hK => ?_)
     go_simp
     refine (HLAYC.out _ ?_).mono ?_
     ·(repeat (first | assumption | exact Mod.refl _ _ | refine Mod.drew ?_))
     rintro e w3 ⟨rfl, hj3, hd3, hm3⟩
     have hms : w2.heap.size ≤ w3.heap.size := Nat.le_trans (show Mod nil w2 _ from by (repeat (first | assumption | exact Mod.refl _ _ | refine Mod.drew ?_))).size hm3.size
     have hmw : Mod (fun k => B k ∨ k = jb) w2 w3 := ((show Mod nil w2 _ from by (repeat (first | assumption | exact Mod.refl _ _ | refine Mod.drew ?_))).ofNil (S := (fun k => B k ∨ k = jb))).trans hm3 (fun _ _ h => h)
     have HJ3 := Lib.hid hj3
     have HD3 := Lib.hid hd3
     have HK93 : Hid ((fun w' => w'.cell? ⟨jb, 1, none⟩ = some (.int .i64 (hf : Int)) ∧ w'.cell? ⟨jb, 6, none⟩ = some (.int .i64 (at_ : Int))) w3) := Lib.hid (by
      obtain ⟨_, _, _, _, _, e, -, -⟩ := hj3.ex
      simp only at e
      rw [HHF.out, HAT.out] at e
      exact ⟨cell_of e 1, cell_of e 6⟩)
     clear hj3 hd3 hm3
     refine hK.out _ _ ((by first | exact HK93.out | exact HK9.out _ (by (repeat (first | assumption | exact Mod.refl _ _ | refine Mod.drew ?_))))) (fun hHeld => ?_)
     clear hK K
     (try simp only [Act.put, pT])
     refine sH 11 ?_
     refine wpAnyH_done (by kernel_rfl) ?_ _
     have HMW := Lib.hid hmw
     have HP : Hid (∀ W s' (Tm : Nat → Prop), IsRJ (fun k => S k ∨ w3.heap.size ≤ k) W jb db s' → Mod Tm w3 W → (∀ k, k < w3.heap.size → Tm k → S k) → IsRJD (fun k => F k ∨ w.heap.size ≤ k) W jb db s' dl) := Lib.hid (fun W s' Tm hjW hmW hTm => by
      have hbd : ∀ k, (B k ∨ w2.heap.size ≤ k) ∧ k < w3.heap.size → ¬ (S k) := fun k hk hs => by
       have hf := (HF.out k (.inl hs)).2
       rcases hk.1 with h | h
       ·exact HSB.out k hs h
       ·omega
      have hd3 := HD3.out.mono (C := fun k => B k ∨ w2.heap.size ≤ k) (fun k h => h.imp id (fun h => by simpa using h))
      refine ⟨_, _, hjW.here, hd3.here.mod hmW (fun k hk hb hT => hbd k hb (hTm k hk hT)), fun k hS hb => ?_, fun k hk => ?_⟩
      ·rcases hS.1 with h | h
       ·exact hbd k hb h
       ·have := hb.2; omega
      ·have hs3 := hmW.size
       rcases hk with hk | hk
       ·refine ⟨?_, hk.2⟩
        rcases hk.1 with h | h
        ·exact .inl (HF.out k (.inl h)).1
        ·exact .inr (by omega)
       ·refine ⟨?_, by have := hk.2; omega⟩
        rcases hk.1 with h | h
        ·exact .inl (HF.out k (.inr h)).1
        ·exact .inr (by omega))
     have HMF : Hid (Mod F w w3) := Lib.hid (HM2.out.ofNil.trans hmw (fun k hk h => by rcases h with h | h; exact (HF.out k (.inr h)).1; rw [h]; exact (HF.out jb (.inl HJ.out.lo)).1))
     clear hHeld hmw j0 j1 HLAYC HK93
     cases ok with
     | false =>
      have HA : Hid (s.appends d b = ({ s with down := true }, dl, 13)) := Lib.hid (by unfold JS.appends; rw [if_neg HUP.out, if_neg (by rw [HBL.out]; exact hlong), if_neg HNF.out, HLY.out, if_neg (by simp)])
      have HE := Lib.hid (HPOST.out (.returned (.int .i64 13)) w3 ⟨by rw [HA.out], by
       rw [HA.out]
       have h := HJ3.out
       simp only [Bool.not_false, Bool.or_true] at h
       exact HP.out w3 _ nil (h.mono (fun _ _ h => .inl h)) (Mod.refl _ _) (fun _ _ h => h.elim), HMF.out⟩)
      clear hfit'
      go_wp2_with fail
      exact HE.out
     | true =>
      have hj3 := HJ3.out
      simp only [Bool.not_true, Bool.or_false] at hj3
      obtain ⟨pp3, cp3, nr3, pr3, cr3, hb3, hpi3, htx3⟩ := hj3.ex
      have HB3 := Lib.hid hb3
      have HPI3 := Lib.hid hpi3
      have HTX3 := Lib.hid htx3
      have hn3 : nr3 ≤ 5000 := by have h := htx3.len; simp only at h; rw [← h, HRN.out]; obtain ⟨_, _, q3, q4⟩ := HLIM.out; rw [HRN.out] at q3; rw [HNN.out] at q4; omega
      have hjl3 := heap_lt hb3
      have HCOPY := Lib.hid (fun W (mm : Mod nil w3 W) => refCopyBytesV _ (.slice pb nb cb) b W ((HROW.out.mod HMF.out (fun k _ hT hF => (HT.out k hT).2 hF)).modNil mm) (by rw [HBL.out]; omega))
      have HK11 : Hid (∀ W, Mod (fun k => (Value.slice pr3 nr3 cr3).ownBlock = some k) w3 W → (fun w' => w'.cell? ⟨jb, 5, none⟩ = some (.slice pr3 nr3 cr3)) W) := Lib.hid (fun W mm => cell_kept (cell_of hb3 5) mm hjl3 (fun ho => (HTX3.out.own ho).1.2 rfl))
      have j5 := HK11.out w3 (Mod.refl _ _)
      have jz := free_of hb3 5
      clear hj3 hb3 hpi3 htx3 hfit'
      go_wp2_with fail
      go_upto_region 11 with (fail)
      refine region_till (fun w' => w'.cell? ⟨jb, 5, none⟩ = some (.slice pr3 nr3 cr3)) 11 (by kernel_rfl) ?_
      refine sF 0 (fun _ => HK11.out _ mD) ?_
      refine sF 1 (fun _ => HK11.out _ mD) ?_
      refine sF 2 (fun _ => HK11.out _ mD) ?_
      refine sF 3 (fun _ => HK11.out _ mD) ?_
      refine sT 4 (HK11.out _ mD) ?_
      refine sF 5 (fun _ => HK11.out _ mD) ?_
      refine rT 6 (fun K hK => ?_)
      go_simp
      refine (HCOPY.out _ ?_).mono ?_
      ·exact mD
      rintro e w4 ⟨v4, rfl, hv4, hmc⟩
      have hm4n : Mod nil w3 w4 := (show Mod nil w3 _ from mD).thenNil hmc
      have hm4 : Mod (fun k => (Value.slice pr3 nr3 cr3).ownBlock = some k) w3 w4 := hm4n.ofNil
      obtain ⟨p4, c4, rfl⟩ := hv4.form
      obtain ⟨v6, w6, hrun6, hv6, hm6a, ho6⟩ := textsC_append (R := fun k => w3.heap.size ≤ k) (S := fun k => (S k ∧ k ≠ jb) ∨ w3.heap.size ≤ k) 85 ((HTX3.out.modNil hm4n).mono (fun _ _ h => .inl h)) (hv4.row.mono (fun k _ h => by simpa using h)) hv4.capOk (fun k hk => ⟨.inr hk, fun ho => by have := (HTX3.out.own ho).2; omega⟩) rfl (by omega)
      obtain ⟨p6, c6, rfl⟩ := hv6.form
      have hm6 : Mod (fun k => (Value.slice pr3 nr3 cr3).ownBlock = some k) w3 w6 := hm4.trans hm6a (fun _ _ h => h)
      have HV6 := Lib.hid hv6
      have hb6 := (hm6.block jb hjl3 (fun ho => (HTX3.out.own ho).1.2 rfl)).trans HB3.out
      have HB6 := Lib.hid hb6
      have HO6 := Lib.hid ho6
      have HS46 : Hid (w3.heap.size ≤ w4.heap.size) := Lib.hid hm4n.size
      have x6 := cell_of hb6 5
      have z6 := free_of hb6 5
      simp only [List.getElem?_toArray, List.getElem?_cons_zero, List.getElem?_cons_succ] at x6
      clear hb6 hmc hv4 hv6 hm6a ho6
      refine hK.out _ _ (fun _ => HK11.out _ mD) ?_
      clear hK K
      (try simp only [Act.put, pT])
      refine rT 7 (fun K hK => ?_)
      go_simp
      refine hK.out _ _ (fun _ => HK11.out _ mD) ?_
      clear hK K
      (try simp only [Act.put, pT])
      refine rT 8 (fun K hK => ?_)
      refine step_append_run rfl _ _ _ _ rfl rfl rfl hrun6 ?_
      refine hK.out _ _ (fun _ => HK11.out _ mD) ?_
      clear hK K
      (try simp only [Act.put, pT])
      refine sF 9 (fun _ => HK11.out _ mD) ?_
      refine sF 10 (fun _ => HK11.out _ mD) ?_
      refine rT 11 (fun K hK => ?_)
      go_simp
      refine hK.out _ _ (fun h => (by simp at h)) ?_
      clear hK K
      (try simp only [Act.put, pT])
      refine till_done (by kernel_rfl) ?_ _
      have hb7 := heap_setCell_same HB6.out (.slice p6 (nr3 + 1) c6) (off := 5)
      simp only [List.setIfInBounds_toArray, List.set_cons_succ, List.set_cons_zero] at hb7
      have hm7 : Mod (· = jb) w6 (w6.setCell ⟨jb, 5, none⟩ (.slice p6 (nr3 + 1) c6)) := (Mod.refl _ _).setCell _ _ (fun _ => rfl)
      generalize hw7 : World.setCell w6 _ _ = w7 at *
      have HB7 := Lib.hid hb7
      have HM7 := Lib.hid hm7
      have HM6 := Lib.hid hm6
      have HK12 : Hid (∀ W, Mod nil w7 W → (fun w' => w'.cell? ⟨jb, 6, none⟩ = some (.int .i64 (at_ : Int)) ∧ w'.cell? ⟨jb, 7, none⟩ = some (.int .i64 ((rn + 1 : Nat) : Int))) W) := Lib.hid (fun W mm => by
       have e := mm.keep hb7
       rw [HAT.out, HRN.out] at e
       exact ⟨cell_of e 6, cell_of e 7⟩)
      have y6 := (HK12.out w7 (Mod.refl _ _)).1
      have y7 := (HK12.out w7 (Mod.refl _ _)).2
      have u6 := free_of hb7 6
      have u7 := free_of hb7 7
      obtain ⟨A2, hA2⟩ : ∃ x, at_ + m = x := ⟨_, rfl⟩
      obtain ⟨R2, hR2⟩ : ∃ x, rn + 2 = x := ⟨_, rfl⟩
      have g1 : (at_ : Int) + (m : Int) = (A2 : Int) := by omega
      have g2 : (rn : Int) + 1 + 1 = (R2 : Int) := by omega
      have hrnb : rn ≤ 5000 := by obtain ⟨_, _, q3, q4⟩ := HLIM.out; rw [HRN.out] at q3; rw [HNN.out] at q4; omega
      have g3 : IntKind.i64.wrap (A2 : Int) = (A2 : Int) := by rw [IntKind.wrap_i64]; omega
      have g4 : IntKind.i64.wrap (R2 : Int) = (R2 : Int) := by rw [IntKind.wrap_i64]; omega
      have g5 : IntKind.i64.wrap (m : Int) = (m : Int) := by rw [IntKind.wrap_i64]; omega
      have HA2 := Lib.hid hA2
      have HR2 := Lib.hid hR2
      clear hb7 hm7 hw7 hA2 hR2 hm6 hm4 hm4n x6 z6 hrun6 j5 jz
      go_wp2_with fail
      go_upto_region 12 with (fail)
      refine region_till (fun w' => w'.cell? ⟨jb, 6, none⟩ = some (.int .i64 (at_ : Int)) ∧ w'.cell? ⟨jb, 7, none⟩ = some (.int .i64 ((rn + 1 : Nat) : Int))) 17 (by kernel_rfl) ?_
      refine sF 0 (fun _ => HK12.out _ mD) ?_
      refine sF 1 (fun _ => HK12.out _ mD) ?_
      refine sF 2 (fun _ => HK12.out _ mD) ?_
      refine sF 3 (fun _ => HK12.out _ mD) ?_
      refine sF 4 (fun _ => HK12.out _ mD) ?_
      refine sT 5 (HK12.out _ mD) ?_
      refine sF 6 (fun _ => HK12.out _ mD) ?_
      refine sT 7 (HK12.out _ mD) ?_
      refine sF 8 (fun _ => HK12.out _ mD) ?_
      refine sF 9 (fun _ => HK12.out _ mD) ?_
      refine sF 10 (fun _ => HK12.out _ mD) ?_
      refine sF 11 (fun _ => HK12.out _ mD) ?_
      refine sF 12 (fun _ => HK12.out _ mD) ?_
      refine sT 13 (HK12.out _ mD) ?_
      refine sF 14 (fun _ => HK12.out _ mD) ?_
      refine sF 15 (fun _ => HK12.out _ mD) ?_
      refine sF 16 (fun _ => HK12.out _ mD) ?_
      refine rT 17 (fun K hK => ?_)
      go_simp
      refine hK.out _ _ (fun h => (by simp at h)) ?_
      clear hK K
      (try simp only [Act.put, pT])
      refine rT 18 (fun K hK => ?_)
      go_simp
      refine hK.out _ _ (fun h => (by simp at h)) ?_
      clear hK K
      (try simp only [Act.put, pT])
      refine rT 19 (fun K hK => ?_)
      go_simp
      refine hK.out _ _ (fun h => (by simp at h)) ?_
      clear hK K
      (try simp only [Act.put, pT])
      refine rT 20 (fun K hK => ?_)
      go_simp
      refine hK.out _ _ (fun h => (by simp at h)) ?_
      clear hK K
      (try simp only [Act.put, pT])
      refine till_done (by kernel_rfl) ?_ _
      have HA : Hid (s.appends d b = ({ s with recs := s.recs ++ [b], at_ := s.at_ + sectorsF b.length }, dl, 0)) := Lib.hid (by unfold JS.appends; rw [if_neg HUP.out, if_neg (by rw [HBL.out]; exact hlong), if_neg HNF.out, HLY.out, if_pos rfl])
      have HFIN : Hid (∀ V, Mod nil w7 V → Post (.returned (.int .i64 0)) ((V.setCell ⟨jb, 6, none⟩ (.int .i64 A2)).setCell ⟨jb, 7, none⟩ (.int .i64 R2))) := Lib.hid (fun V mm => by
       have q1 := heap_setCell_same (mm.keep HB7.out) (.int .i64 A2) (off := 6)
       have q2 := heap_setCell_same q1 (.int .i64 R2) (off := 7)
       simp only [List.setIfInBounds_toArray, List.set_cons_succ, List.set_cons_zero] at q2
       have ms : Mod (· = jb) V ((V.setCell ⟨jb, 6, none⟩ (.int .i64 A2)).setCell ⟨jb, 7, none⟩ (.int .i64 R2)) := ((Mod.refl (· = jb) V).setCell _ _ (fun _ => rfl)).setCell _ _ (fun _ => rfl)
       generalize World.setCell (World.setCell V _ _) _ _ = W at *
       have h67 : Mod (· = jb) w6 W := (HM7.out.thenNil mm).trans ms (fun _ _ h => h)
       have hmW : Mod (fun k => (fun k => (Value.slice pr3 nr3 cr3).ownBlock = some k) k ∨ k = jb) w3 W := (HM6.out.mono (fun _ _ h => .inl h)).trans h67 (fun _ _ h => .inr h)
       have hown : ∀ k, (fun k => (Value.slice pr3 nr3 cr3).ownBlock = some k) k → S k ∧ k ≠ jb ∧ k < w3.heap.size := fun k ho => ⟨(HTX3.out.own ho).1.1, (HTX3.out.own ho).1.2, (HTX3.out.own ho).2⟩
       have hSl : ∀ k, S k → k < w3.heap.size := fun k hS => Nat.lt_of_lt_of_le (HF.out k (.inl hS)).2 (Nat.le_trans HM2.out.size hms)
       refine HPOST.out _ _ ⟨by rw [HA.out], ?_, HMF.out.trans hmW (fun k hk h => by rcases h with h | h; exact (HF.out k (.inl (hown k h).1)).1; rw [h]; exact (HF.out jb (.inl HJ.out.lo)).1)⟩
       rw [HA.out]
       refine HP.out W _ _ ⟨.inl HJ.out.lo, pp3, cp3, nr3 + 1, p6, c6, ?_, ?_, ?_⟩ hmW (fun k hk h => by rcases h with h | h; exact (hown k h).1; rw [h]; exact HJ.out.lo)
       ·rw [q2, HAT.out, HBL.out, HMM.out, HA2.out, List.length_append, HRN.out, show rn + [b].length + 1 = R2 from by rw [← HR2.out]; rfl]
       ·exact (HPI3.out.here.mod hmW (fun k hk h ho => by
         rcases ho with ho | ho
         ·exact h.1.2 ho
         ·exact h.1.1.2 ho)).mono (fun k _ h => ⟨⟨.inl h.1.1.1, h.1.1.2⟩, fun ho => by
         rcases HO6.out k ho with h' | h'
         ·exact h.1.2 h'
         ·have := h.2; have := HS46.out; omega⟩)
       ·exact (HV6.out.mono (T := fun k => (S k ∨ w3.heap.size ≤ k) ∧ k ≠ jb) (fun k _ h => by
         rcases h with (h | h) | h
         ·exact ⟨.inl h.1, h.2⟩
         ·exact ⟨.inr h, by omega⟩
         ·exact ⟨.inr (by have := HS46.out; omega), by have := HS46.out; omega⟩)).mod h67 (fun k _ h e => h.2 e))
      clear y6 y7 u6 u7 g1 g2 g3 g4 g5
      go_wp2_with fail
      first | exact HFIN.out _ (Mod.refl _ _) | exact HFIN.out _ (Mod.refl _ _).drew | exact HFIN.out _ ((Mod.refl _ _).drewN _)
end Go.Proofs.YtdfahddpkkeldaaGreat

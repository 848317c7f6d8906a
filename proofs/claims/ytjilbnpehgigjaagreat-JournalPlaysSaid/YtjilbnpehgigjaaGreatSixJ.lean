/- cflref6: the journal: Len, text, head, Room. (Printed by wip/tools/gen_sixj.py.) -/
import Derived.Test.YtjilbnpehgigjaaGreatShort
import Derived.Test.YtjilbnpehgigjaaGreatSixGet
import Derived.Test.YtjilbnpehgigjaaGreatRefNew
import Derived.Test.YtjilbnpehgigjaaGreatJPlainD
import Derived.Test.YtjilbnpehgigjaaGreatJPic
namespace Go.Proofs.YtjilbnpehgigjaaGreat
open Go.RowKit
theorem refLen (b : Nat) (B : Nat → Prop) (d : DS) (w : World) (h : IsRefIn w B b d) :
    Calls Tryz.prog 47 #[.pointer (some ⟨b, 0, none⟩)] w fun e w' => e = .returned (.int .i64 d.lasts.length) ∧ w' = w := by
  obtain ⟨P1, P2, P3, v1, v2, v3, h, -, -⟩ := h
  obtain ⟨p, c, rfl⟩ := h.now.form
  have c0 := cell_of h.obj 0
  simp only [List.getElem?_toArray, List.getElem?_cons_zero] at c0
  clear h
  go_enter Tryz.func47, Tryz.ntmps47
  go_wp2_with fail
  go_ret
  exact ⟨rfl, rfl⟩
theorem IsRefIn.room {w : World} {B : Nat → Prop} {b : Nat} {d : DS} (h : IsRefIn w B b d) : d.lasts.length ≤ 8192 := by
  obtain ⟨P1, P2, P3, v1, v2, v3, h, -, -⟩ := h
  exact h.room
theorem IsRefIn.own {w : World} {B : Nat → Prop} {b : Nat} {d : DS} (h : IsRefIn w B b d) : B b ∧ b < w.heap.size := by
  obtain ⟨P1, P2, P3, v1, v2, v3, h, hb, -⟩ := h
  exact ⟨hb, heap_lt h.obj⟩
set_option maxRecDepth 100000 in
set_option maxHeartbeats 4000000 in
theorem sixTextAt (jb db half at_ N : Nat) (B : Nat → Prop) (d : DS) (w : World) (hc : w.cell? ⟨jb, 0, none⟩ = some (.pointer (some ⟨db, 0, none⟩))) (h : IsRefIn w B db d) (hN : d.lasts.length / 2 = N) (hh : half ≤ 1) (ha : at_ ≤ N) (hr64 : ∀ i, (d.read i).1.length ≤ 64) :
    Calls Tryz.prog 42 #[.pointer (some ⟨jb, 0, none⟩), .int .i64 half, .int .i64 at_] w fun e w' => ∃ p n c, e = .returned (.slice p n c) ∧ IsVec (fun k => w.heap.size ≤ k) w' 5 1 (.slice p n c) n (bys (sectorsAt d (half * N + at_) (N - at_))) ∧ Mod nil w w' := by
  have HLEN := Lib.hid (fun W (m : Mod nil w W) => (refLen db B d W (h.mod m (fun _ _ _ f => f))).mono (fun e w' (h : e = .returned (.int .i64 d.lasts.length) ∧ w' = W) => (⟨h.1, by rw [h.2]; exact Mod.refl _ _⟩ : e = .returned (.int .i64 d.lasts.length) ∧ Mod nil W w')))
  have HRD := Lib.hid (fun (x : Nat) W (m : Mod nil w W) => refRead db B d (x : Int) W (h.mod m (fun _ _ _ f => f)))
  have hjl := World.block_lt_of_cell? _ _ hc
  have HK : Hid (∀ W, Mod nil w W → (fun w' => w'.cell? ⟨jb, 0, none⟩ = some (.pointer (some ⟨db, 0, none⟩))) W) := Lib.hid (fun W m => cell_kept hc m hjl (not_nil _))
  have hroom := h.room
  obtain ⟨n, hn⟩ : ∃ n, d.lasts.length = n := ⟨_, rfl⟩
  rw [hn] at HLEN hN hroom
  have hdiv : (n : Int) / 2 = (N : Int) := by omega
  have hNb : N ≤ 4096 := by omega
  have HR64 := Lib.hid hr64
  obtain ⟨HB, hHB⟩ : ∃ x, half * N = x := ⟨_, rfl⟩
  have hHBb : HB ≤ 8192 := by rw [← hHB]; have := Nat.mul_le_mul hh hNb; omega
  have hmul : (half : Int) * (N : Int) = (HB : Int) := by rw [← hHB]; simp
  have hmul2 : IntKind.i64.wrap ((half : Int) * (N : Int)) = (HB : Int) := by rw [hmul, IntKind.wrap_i64]; omega
  have HHB := Lib.hid hHB
  have hwB : IntKind.i64.wrap (HB : Int) = (HB : Int) := by rw [IntKind.wrap_i64]; omega
  have hwN : IntKind.i64.wrap (N : Int) = (N : Int) := by rw [IntKind.wrap_i64]; omega
  clear h hc hr64 hN hn hroom hHB
  go_enter Tryz.func42, Tryz.ntmps42
  go_wp2_with fail
  go_loopw [7, 8] (fun v7 v8 wr => ∃ (j m q I : Nat) (p : Option Addr), j ≤ N - at_ ∧ m ≤ 64 * j ∧ I = at_ + j ∧ v8 = .int .i64 I ∧ v7 = .slice p m q ∧ Hid ((sectorsAt d (half * N + at_) j).length = m) ∧ Hid (IsVec (fun k => w.heap.size ≤ k) wr 5 1 (.slice p m q) m (bys (sectorsAt d (half * N + at_) j))) ∧ Hid (Mod nil w wr)) (fun _ v _ => N - (intOf v).toNat)
  case atStart => exact ⟨0, 0, 0, at_, none, by omega, by omega, by omega, rfl, rfl, Lib.hid rfl, Lib.hid (IsVec.nil _ _ _ _), Lib.hid (Mod.refl _ _)⟩
  case round =>
    obtain ⟨j, m, q, I, p, hj, hmj, hI, rfl, rfl, HML, HV, HM⟩ := hrel
    have HI := Lib.hid hI
    clear hI
    have hc1 : wr.cell? ⟨jb, 0, none⟩ = some (.pointer (some ⟨db, 0, none⟩)) := HK.out wr HM.out
    by_cases hlt : j < N - at_
    · have hlt' : I < N := by have := HI.out; omega
      obtain ⟨X, hX⟩ : ∃ x, HB + I = x := ⟨_, rfl⟩
      have hsum : (HB : Int) + (I : Int) = (X : Int) := by omega
      have hsum2 : IntKind.i64.wrap ((HB : Int) + (I : Int)) = (X : Int) := by rw [hsum, IntKind.wrap_i64]; omega
      have hwX : IntKind.i64.wrap (X : Int) = (X : Int) := by rw [IntKind.wrap_i64]; omega
      have HXX := Lib.hid hX
      clear hX
      go_wp2_with fail
      refine (HLEN.out wr HM.out).mono ?_
      rintro e w1 ⟨rfl, hm1⟩
      have hc2 : w1.cell? ⟨jb, 0, none⟩ = some (.pointer (some ⟨db, 0, none⟩)) := HK.out w1 (HM.out.thenNil hm1)
      have hmw : Mod nil w w1 := HM.out.thenNil hm1
      have HV1 := Lib.hid (HV.out.modNil hm1)
      have HMW := Lib.hid hmw
      clear hm1
      go_upto_region 5 with (fail)
      refine wp_region_held_drew (S := (fun w' => w'.cell? ⟨jb, 0, none⟩ = some (.pointer (some ⟨db, 0, none⟩)))) (by kernel_rfl) (HK.out _ (by (repeat (first | assumption | exact Mod.refl _ _ | refine Mod.drew ?_ | refine Mod.alloc ?_ _)))) (fun hHeld => ?_)
      refine tH 0 ?_
      (try simp only [Act.put, pT])
      refine tH 1 ?_
      (try simp only [Act.put, pT])
      refine tH 2 ?_
      (try simp only [Act.put, pT])
      refine tH 3 ?_
      (try simp only [Act.put, pT])
      refine tH 4 ?_
      (try simp only [Act.put, pT])
      refine tH 5 ?_
      (try simp only [Act.put, pT])
      refine tH 6 ?_
      (try simp only [Act.put, pT])
      refine tH 7 ?_
      (try simp only [Act.put, pT])
      refine tH 8 ?_
      (try simp only [Act.put, pT])
      refine tH 12 ?_
      (try simp only [Act.put, pT])
      refine wpAnyH_ready (rs := [9]) (by kernel_rfl) (by simp) ?_
      refine AllReadyH.cons (i := 9) rfl (fun K hK => ?_) AllReadyH.nil
      (try dsimp (config := { proj := false }) only [g0, g1, g2])
      go_simp
      refine (HLEN.out _ ?_).mono ?_
      · (repeat (first | assumption | exact Mod.refl _ _ | refine Mod.drew ?_ | refine Mod.alloc ?_ _))
      rintro e wl ⟨rfl, hml0⟩
      have hml : Mod nil w wl := (show Mod nil w _ from by (repeat (first | assumption | exact Mod.refl _ _ | refine Mod.drew ?_ | refine Mod.alloc ?_ _))).thenNil hml0
      have hml1 : Mod nil w1 wl := (show Mod nil w1 _ from by (repeat (first | assumption | exact Mod.refl _ _ | refine Mod.drew ?_ | refine Mod.alloc ?_ _))).thenNil hml0
      clear hml0
      refine hK.out _ _ (HK.out _ (by (repeat (first | assumption | exact Mod.refl _ _ | refine Mod.drew ?_ | refine Mod.alloc ?_ _)))) (fun hHeld => ?_)
      clear hK K
      (try simp only [Act.put, pT])
      refine tH 10 ?_
      (try simp only [Act.put, pT])
      refine tH 11 ?_
      (try simp only [Act.put, pT])
      refine tH 13 ?_
      (try simp only [Act.put, pT])
      refine wpAnyH_ready (rs := [14]) (by kernel_rfl) (by simp) ?_
      refine AllReadyH.cons (i := 14) rfl (fun K hK => ?_) AllReadyH.nil
      (try dsimp (config := { proj := false }) only [g0, g1, g2])
      go_simp
      refine (HRD.out X _ ?_).mono ?_
      · (repeat (first | assumption | exact Mod.refl _ _ | refine Mod.drew ?_ | refine Mod.alloc ?_ _))
      rintro e wr2 ⟨v, rfl, hv, hmr0⟩
      have hmr : Mod nil w wr2 := (show Mod nil w _ from by (repeat (first | assumption | exact Mod.refl _ _ | refine Mod.drew ?_ | refine Mod.alloc ?_ _))).thenNil hmr0
      have hmr1 : Mod nil w1 wr2 := (show Mod nil w1 _ from by (repeat (first | assumption | exact Mod.refl _ _ | refine Mod.drew ?_ | refine Mod.alloc ?_ _))).thenNil hmr0
      have HV2 := Lib.hid hv
      clear hv hmr0
      refine hK.out _ _ (HK.out _ (by (repeat (first | assumption | exact Mod.refl _ _ | refine Mod.drew ?_ | refine Mod.alloc ?_ _)))) (fun hHeld => ?_)
      clear hK K
      (try simp only [Act.put, pT])
      refine tH 15 ?_
      (try simp only [Act.put, pT])
      refine tH 16 ?_
      (try simp only [Act.put, pT])
      refine tH 17 ?_
      (try simp only [Act.put, pT])
      refine tH 18 ?_
      (try simp only [Act.put, pT])
      refine tH 19 ?_
      (try simp only [Act.put, pT])
      refine wpAnyH_done (by kernel_rfl) ?_ _
      obtain ⟨pr, cr, rfl, -⟩ := id HV2.out
      have hlr := HR64.out (X : Int)
      obtain ⟨xs, hxs⟩ : ∃ x, (d.read (X : Int)).1 = x := ⟨_, rfl⟩
      rw [hxs] at hlr HV2
      rw [hxs, bys_length]
      obtain ⟨nr, hnr⟩ : ∃ n, xs.length = n := ⟨_, rfl⟩
      rw [bys_length, hnr] at HV2
      rw [hnr] at hlr ⊢
      have hmb : m ≤ 262144 := by omega
      obtain ⟨p2, c2, w2', hrun, hv2, hm2⟩ := six_append 22 HML.out hnr (HV1.out.modNil hmr1) HV2.out (by omega)
      have HRUN := Lib.hid hrun
      have HMLN : Hid ((sectorsAt d (half * N + at_) (j + 1)).length = m + nr ∧ sectorsAt d (half * N + at_) (j + 1) = sectorsAt d (half * N + at_) j ++ xs) := Lib.hid (by
        have e : sectorsAt d (half * N + at_) (j + 1) = sectorsAt d (half * N + at_) j ++ xs := by
          rw [sectorsAt, HHB.out, show HB + at_ + j = X by have := HI.out; have := HXX.out; omega, hxs]
        exact ⟨by rw [e, List.length_append, HML.out, hnr], e⟩)
      have HVN : Hid (IsVec (fun k => w.heap.size ≤ k) w2' 5 1 (.slice p2 (m + nr) c2) (m + nr) (bys (sectorsAt d (half * N + at_) (j + 1)))) := Lib.hid (by
        rw [HMLN.out.2]
        exact hv2.mono (fun k _ h => h.elim id (fun h => by have := hmr.size; omega)))
      have HMN : Hid (Mod nil w w2') := Lib.hid (hmr.new hm2 (fun k h => h))
      have HIN : Hid (I + 1 = at_ + (j + 1)) := Lib.hid (by have := HI.out; omega)
      clear hrun hv2 hm2 hxs hnr hml hml1 hmr hmr1 hHeld hmw hsum hsum2 hwX
      go_wp2_with (first | (at_builtin; refine wpList_append_run rfl _ _ _ _ rfl rfl rfl HRUN.out ?_))
      exact ⟨⟨j + 1, m + nr, c2, I + 1, p2, by omega, by omega, HIN.out, by go_num, rfl, Lib.hid HMLN.out.1, HVN, HMN⟩, by simp [intOf]; omega⟩
    · obtain rfl : j = N - at_ := by omega
      have hge : ¬ I < N := by have := HI.out; omega
      go_wp2_with fail
      refine (HLEN.out wr HM.out).mono ?_
      rintro e w1 ⟨rfl, hm1⟩
      have HV1 := Lib.hid (HV.out.modNil hm1)
      have HMW := Lib.hid (HM.out.thenNil hm1)
      clear hm1
      go_wp2_with fail
      go_ret
      exact ⟨_, _, _, rfl, HV1.out, HMW.out⟩
theorem step_store_row6 {P : Program} {ops : Array Oper} {o : Oper} {a : Act} {w : World} {K : Act → World → Prop} {Q : Exit → Act → World → Prop} {E : Prop} (hgd : o.guard = none) (ty : TypeId) (x y : Operand) (ho : o.op = .store ty x y)
    (g : Nat) (cells : Array Value) (hx : a.eval x = .pointer (some ⟨g, 0, none⟩)) (hy : a.eval y = .agg cells)
    (t : TypeId) (old : Array Value) (hg : w.heap[g]? = some (.cells old t (0, 0))) (hi : (P.info? ty).map (·.size) = some cells.size)
    (hold : old.size = cells.size) (h1 : cells.all (·.oneCell') = true) (h : K (a.put o.dst undef) (w.setRow g cells)) : if Region.wanted o (yielded ops a.tmps) = true then Oper.wp P o a w K Q else E := by
  have hw : Region.wanted o (yielded ops a.tmps) = true := by simp [Region.wanted, hgd]
  rw [if_pos hw]
  exact wp_store_row ty x y ho g cells hx hy t old hg hi hold h1 h
def SixHeaded (w w' : World) (b : List UInt8) (e : Ending) : Prop :=
  Mod nil w w' ∧
  ((getF b = none ∧ e = .returned (.tuple #[.agg #[.int .i64 0, .int .i64 0, .int .i64 0, .slice none 0 0], .int .i64 0, .bool false])) ∨
   (∃ kind gen seq body q c, getF b = some (kind, gen, seq, body) ∧ e = .returned (.tuple #[.agg #[.int .i64 (kind : Nat), .int .i64 (gen : Nat), .int .i64 (seq : Nat), .slice q body.length c], .int .i64 (sectorsF body.length : Nat), .bool (decide (kind = 1 ∧ seq = 0))]) ∧
     IsVec (fun k => w.heap.size ≤ k) w' 5 1 (.slice q body.length c) body.length (bys body)))
set_option maxRecDepth 100000 in
set_option maxHeartbeats 4000000 in
theorem sixHead (jb db half N : Nat) (B : Nat → Prop) (d : DS) (w : World) (hc : w.cell? ⟨jb, 0, none⟩ = some (.pointer (some ⟨db, 0, none⟩))) (h : IsRefIn w B db d) (hN : d.lasts.length / 2 = N) (hh : half ≤ 1) (hr64 : ∀ i, (d.read i).1.length ≤ 64) :
    Calls Tryz.prog 40 #[.pointer (some ⟨jb, 0, none⟩), .int .i64 half] w fun e w' => SixHeaded w w' (sectorsAt d (half * N) N) e := by
  refine (?_ : ∀ Post : Ending → World → Prop, Hid (∀ e w', SixHeaded w w' (sectorsAt d (half * N) N) e → Post e w') → Calls Tryz.prog 40 #[.pointer (some ⟨jb, 0, none⟩), .int .i64 half] w Post) _ (Lib.hid (fun _ _ h => h))
  intro Post HPOST
  have hjl := World.block_lt_of_cell? _ _ hc
  have HT := Lib.hid (fun W (m : Mod nil w W) => sixTextAt jb db half 0 N B d W (cell_kept hc m hjl (not_nil _)) (h.mod m (fun _ _ _ f => f)) hN hh (Nat.zero_le _) hr64)
  have hNb : N ≤ 4096 := by have := h.room; omega
  have hlen : (sectorsAt d (half * N) N).length ≤ 64 * N := by
    have : ∀ n, (sectorsAt d (half * N) n).length ≤ 64 * n := fun n => by
      induction n with
      | zero => simp [sectorsAt]
      | succ n ih => rw [sectorsAt, List.length_append]; have := hr64 ((half * N + n : Nat) : Int); omega
    exact this N
  rw [Nat.add_zero, Nat.sub_zero] at HT
  obtain ⟨TB, hTB⟩ : ∃ x, sectorsAt d (half * N) N = x := ⟨_, rfl⟩
  rw [hTB] at HT HPOST hlen
  have HLEN := Lib.hid hlen
  clear hc h hr64 hN hTB hlen
  go_enter Tryz.func40, Tryz.ntmps40
  go_wp2_with fail
  obtain ⟨G, hG⟩ : ∃ g, w.heap.size = g := ⟨_, rfl⟩
  (try rw [hG])
  generalize hw1 : World.alloc w _ = w1
  have hm1 : Mod nil w w1 := by rw [← hw1]; exact (Mod.refl _ _).alloc _
  have HX : Hid (w1.heap[G]? = some (.cells #[.int .i64 0, .int .i64 0, .int .i64 0, .slice none 0 0] 37 (0, 0))) := Lib.hid (by rw [← hw1, ← hG]; exact heap_alloc_new _ _)
  have HG := Lib.hid hG
  have HM1 := Lib.hid hm1
  clear hw1 hm1 hG
  refine (HT.out w1 HM1.out).mono ?_
  rintro e w2 ⟨p, n, c, rfl, hv, hm2⟩
  have hvl : TB.length = n := by
    obtain ⟨_, _, e, _⟩ := hv.row
    simp only [Value.slice.injEq, bys_length] at e
    exact e.2.1.symm
  have hcap : n ≤ c ∧ c ≤ maxLen := by
    obtain ⟨p', c', h, h1, h2⟩ := vecCap hv
    simp only [Value.slice.injEq] at h
    obtain ⟨-, -, rfl⟩ := h
    exact ⟨h1, h2⟩
  have HGET := Lib.hid (sixGet _ p n c TB w2 hv.row hcap.1 hcap.2 (by have := HLEN.out; omega))
  have HX2 := Lib.hid (hm2.keep HX.out)
  have HM2 := Lib.hid (HM1.out.thenNil hm2)
  clear hv hm2 hvl hcap HT
  go_wp2_with fail
  refine HGET.out.mono ?_
  rintro e w3 ⟨hm3, hcase⟩
  have HX3 := Lib.hid (hm3.keep HX2.out)
  have HM3 := Lib.hid (HM2.out.thenNil hm3)
  have hGl : G < w3.heap.size := heap_lt HX3.out
  have hs3 := hm3.size
  rcases hcase with ⟨hnone, rfl⟩ | ⟨kind, gen, seq, body, q, cq, hsome, rfl, hv3⟩
  · clear hm3
    go_upto_region 2 with (fail)
    obtain ⟨g7, hg7⟩ : ∃ g, w3.heap.size = g := ⟨_, rfl⟩
    (try rw [hg7])
    generalize hw4 : World.alloc w3 _ = w4
    have hm4 : Mod nil w3 w4 := by rw [← hw4]; exact (Mod.refl _ _).alloc _
    have hb7 : w4.heap[g7]? = some (.cells #[.int .i64 0, .int .i64 0, .int .i64 0, .slice none 0 0] 37 (0, 0)) := by rw [← hw4, ← hg7]; exact heap_alloc_new _ _
    have HK : Hid (∀ W, Mod (· = G) w4 W → (fun w' => w'.cell? ⟨g7, 0, none⟩ = some (.int .i64 0) ∧ w'.cell? ⟨g7, 1, none⟩ = some (.int .i64 0) ∧ w'.cell? ⟨g7, 2, none⟩ = some (.int .i64 0) ∧ w'.cell? ⟨g7, 3, none⟩ = some (.slice none 0 0)) W) := Lib.hid (fun W m => by
      have e := (m.block g7 (heap_lt hb7) (by omega)).trans hb7
      exact ⟨cell_of e 0, cell_of e 1, cell_of e 2, cell_of e 3⟩)
    have HXG : Hid (∀ W, Mod nil w4 W → W.heap[G]? = some (.cells #[.int .i64 0, .int .i64 0, .int .i64 0, .slice none 0 0] 37 (0, 0))) := Lib.hid (fun W m => m.keep (hm4.keep HX3.out))
    have HM4 := Lib.hid (HM3.out.thenNil hm4)
    have HE : Hid (∀ n, Post (.returned (.tuple #[.agg #[.int .i64 0, .int .i64 0, .int .i64 0, .slice none 0 0], .int .i64 0, .bool false])) (World.setRow (w4.drewN n) G #[.int .i64 0, .int .i64 0, .int .i64 0, .slice none 0 0])) := Lib.hid (fun n => HPOST.out _ _ ⟨(HM4.out.thenNil ((Mod.refl nil w4).drewN n)).new ((Mod.refl (· = G) _).rowSet G _ (fun _ => rfl)) (fun k h => by have := HG.out; omega), .inl ⟨hnone, rfl⟩⟩)
    clear hnone
    clear hw4 hm4 hb7 hg7
    refine wp_region_held_drew (S := (fun w' => w'.cell? ⟨g7, 0, none⟩ = some (.int .i64 0) ∧ w'.cell? ⟨g7, 1, none⟩ = some (.int .i64 0) ∧ w'.cell? ⟨g7, 2, none⟩ = some (.int .i64 0) ∧ w'.cell? ⟨g7, 3, none⟩ = some (.slice none 0 0))) (by kernel_rfl) (HK.out _ (by (repeat (first | assumption | exact Mod.refl _ _ | refine Mod.drew ?_ | refine Mod.rowSet ?_ _ _ (fun _ => rfl))))) (fun hHeld => ?_)
    refine tH 0 ?_
    (try simp only [Act.put, pT])
    refine tH 1 ?_
    (try simp only [Act.put, pT])
    refine tH 2 ?_
    (try simp only [Act.put, pT])
    refine tH 3 ?_
    (try simp only [Act.put, pT])
    refine tH 4 ?_
    (try simp only [Act.put, pT])
    refine wpAnyH_take (i := 5) (v := undef) rfl (by kernel_rfl) (by kernel_rfl) (by kernel_rfl) (fun _ _ _ h => h) (Or.inr ⟨by kernel_rfl, rfl⟩) (by assumption) ?_
    (try simp only [Act.put, pT])
    refine wpAnyH_take (i := 6) (v := undef) rfl (by kernel_rfl) (by kernel_rfl) (by kernel_rfl) (fun _ _ _ h => h) (Or.inr ⟨by kernel_rfl, rfl⟩) (by assumption) ?_
    (try simp only [Act.put, pT])
    refine wpAnyH_take (i := 7) (v := undef) rfl (by kernel_rfl) (by kernel_rfl) (by kernel_rfl) (fun _ _ _ h => h) (Or.inr ⟨by kernel_rfl, rfl⟩) (by assumption) ?_
    (try simp only [Act.put, pT])
    refine tH 8 ?_
    (try simp only [Act.put, pT])
    refine tH 9 ?_
    (try simp only [Act.put, pT])
    refine wpAnyH_take (i := 10) (v := undef) rfl (by kernel_rfl) (by kernel_rfl) (by kernel_rfl) (fun _ _ _ h => h) (Or.inr ⟨by kernel_rfl, rfl⟩) (by assumption) ?_
    (try simp only [Act.put, pT])
    refine wpAnyH_take (i := 11) (v := undef) rfl (by kernel_rfl) (by kernel_rfl) (by kernel_rfl) (fun _ _ _ h => h) (Or.inr ⟨by kernel_rfl, rfl⟩) (by assumption) ?_
    (try simp only [Act.put, pT])
    refine wpAnyH_take (i := 12) (v := undef) rfl (by kernel_rfl) (by kernel_rfl) (by kernel_rfl) (fun _ _ _ h => h) (Or.inr ⟨by kernel_rfl, rfl⟩) (by assumption) ?_
    (try simp only [Act.put, pT])
    refine tH 13 ?_
    (try simp only [Act.put, pT])
    refine wpAnyH_ready (rs := [14]) (by kernel_rfl) (by simp) ?_
    refine AllReadyH.cons (i := 14) rfl (fun K hK => ?_) AllReadyH.nil
    (try dsimp (config := { proj := false }) only [g0, g1, g2])
    refine step_store_row6 rfl _ _ _ rfl G #[.int .i64 0, .int .i64 0, .int .i64 0, .slice none 0 0] rfl rfl 37 _ (HXG.out _ (by (repeat (first | assumption | exact Mod.refl _ _ | refine Mod.drew ?_ | refine Mod.rowSet ?_ _ _ (fun _ => rfl))))) info_frame rfl (by simp [Value.oneCell']) ?_
    refine hK.out _ _ (HK.out _ (by (repeat (first | assumption | exact Mod.refl _ _ | refine Mod.drew ?_ | refine Mod.rowSet ?_ _ _ (fun _ => rfl))))) (fun hHeld => ?_)
    clear hK K
    (try simp only [Act.put, pT])
    refine tH 15 ?_
    (try simp only [Act.put, pT])
    refine tH 16 ?_
    (try simp only [Act.put, pT])
    refine wpAnyH_done (by kernel_rfl) ?_ _
    go_wp2_with fail
    refine bodyPost_ret (results_cell_row3 rfl _ _ G 37 #[.int .i64 0, .int .i64 0, .int .i64 0, .slice none 0 0] (0, 0) rfl (setRow_heap _ G _ #[.int .i64 0, .int .i64 0, .int .i64 0, .slice none 0 0] _ _ (HXG.out _ (by (repeat (first | assumption | exact Mod.refl _ _ | refine Mod.drew ?_ | refine Mod.rowSet ?_ _ _ (fun _ => rfl)))))) Tryz.underlying37 info_frame) rfl ?_
    (first | exact HE.out 0 | exact HE.out 1)
  · obtain ⟨nq, hnq⟩ : ∃ x, body.length = x := ⟨_, rfl⟩
    obtain ⟨sc, hsc⟩ : ∃ x, sectorsF nq = x := ⟨_, rfl⟩
    have HNQ := Lib.hid hnq
    have HSC := Lib.hid hsc
    have HSOME := Lib.hid hsome
    rw [hnq] at hv3 ⊢
    rw [hsc]
    have HV3 : Hid (IsVec (fun k => w2.heap.size ≤ k ∧ k < w3.heap.size) w3 5 1 (.slice q nq cq) nq (bys body)) := Lib.hid (hv3.mono (fun k hk h => ⟨h, hk⟩))
    have HG2 : Hid (G < w2.heap.size) := Lib.hid (heap_lt HX2.out)
    clear hm3 hv3 hsome hnq hsc
    by_cases hk1 : kind = 1
    rotate_left
    · have HOK : Hid (decide (kind = 1 ∧ seq = 0) = false) := Lib.hid (decide_eq_false (fun h => hk1 h.1))
      have hkb : ((kind : Int) == 1) = false := by rw [beq_eq_false_iff_ne]; omega
      clear hk1
      go_upto_region 2 with (fail)
      obtain ⟨g7, hg7⟩ : ∃ g, w3.heap.size = g := ⟨_, rfl⟩
      (try rw [hg7])
      generalize hw4 : World.alloc w3 _ = w4
      have hm4 : Mod nil w3 w4 := by rw [← hw4]; exact (Mod.refl _ _).alloc _
      have hb7 : w4.heap[g7]? = some (.cells #[.int .i64 (kind : Int), .int .i64 (gen : Int), .int .i64 (seq : Int), .slice q nq cq] 37 (0, 0)) := by rw [← hw4, ← hg7]; exact heap_alloc_new _ _
      have HK : Hid (∀ W, Mod (· = G) w4 W → (fun w' => w'.cell? ⟨g7, 0, none⟩ = some (.int .i64 (kind : Int)) ∧ w'.cell? ⟨g7, 1, none⟩ = some (.int .i64 (gen : Int)) ∧ w'.cell? ⟨g7, 2, none⟩ = some (.int .i64 (seq : Int)) ∧ w'.cell? ⟨g7, 3, none⟩ = some (.slice q nq cq)) W) := Lib.hid (fun W m => by
        have e := (m.block g7 (heap_lt hb7) (by omega)).trans hb7
        exact ⟨cell_of e 0, cell_of e 1, cell_of e 2, cell_of e 3⟩)
      have HXG : Hid (∀ W, Mod nil w4 W → W.heap[G]? = some (.cells #[.int .i64 0, .int .i64 0, .int .i64 0, .slice none 0 0] 37 (0, 0))) := Lib.hid (fun W m => m.keep (hm4.keep HX3.out))
      have HM4 := Lib.hid (HM3.out.thenNil hm4)
      have HE : Hid (∀ n, Post (.returned (.tuple #[.agg #[.int .i64 (kind : Int), .int .i64 (gen : Int), .int .i64 (seq : Int), .slice q nq cq], .int .i64 (sc : Nat), .bool false])) (World.setRow (w4.drewN n) G #[.int .i64 (kind : Int), .int .i64 (gen : Int), .int .i64 (seq : Int), .slice q nq cq])) := Lib.hid (fun n => HPOST.out _ _ ⟨(HM4.out.thenNil ((Mod.refl nil w4).drewN n)).new ((Mod.refl (· = G) _).rowSet G _ (fun _ => rfl)) (fun k h => by have := HG.out; omega), .inr ⟨kind, gen, seq, body, q, cq, HSOME.out, by rw [HNQ.out, HSC.out, HOK.out], by rw [HNQ.out]; exact (((HV3.out.modNil hm4).modNil ((Mod.refl nil w4).drewN n)).mod ((Mod.refl (· = G) _).rowSet G _ (fun _ => rfl)) (fun k _ h e => by have := h.1; have := HG2.out; omega)).mono (fun k _ h => by have := HM2.out.size; have := h.1; omega)⟩⟩)
      clear hw4 hm4 hb7 hg7
      refine wp_region_held_drew (S := (fun w' => w'.cell? ⟨g7, 0, none⟩ = some (.int .i64 (kind : Int)) ∧ w'.cell? ⟨g7, 1, none⟩ = some (.int .i64 (gen : Int)) ∧ w'.cell? ⟨g7, 2, none⟩ = some (.int .i64 (seq : Int)) ∧ w'.cell? ⟨g7, 3, none⟩ = some (.slice q nq cq))) (by kernel_rfl) (HK.out _ (by (repeat (first | assumption | exact Mod.refl _ _ | refine Mod.drew ?_ | refine Mod.rowSet ?_ _ _ (fun _ => rfl))))) (fun hHeld => ?_)
      refine tH 0 ?_
      (try simp only [Act.put, pT])
      refine tH 1 ?_
      (try simp only [Act.put, pT])
      refine tH 2 ?_
      (try simp only [Act.put, pT])
      refine tH 3 ?_
      (try simp only [Act.put, pT])
      refine tH 4 ?_
      (try simp only [Act.put, pT])
      refine tH 5 ?_
      (try simp only [Act.put, pT])
      refine tH 6 ?_
      (try simp only [Act.put, pT])
      refine tH 7 ?_
      (try simp only [Act.put, pT])
      refine tH 8 ?_
      (try simp only [Act.put, pT])
      refine tH 9 ?_
      (try simp only [Act.put, pT])
      refine wpAnyH_take (i := 10) (v := undef) rfl (by kernel_rfl) (by kernel_rfl) (by kernel_rfl) (fun _ _ _ h => h) (Or.inr ⟨by kernel_rfl, rfl⟩) (by assumption) ?_
      (try simp only [Act.put, pT])
      refine wpAnyH_take (i := 11) (v := undef) rfl (by kernel_rfl) (by kernel_rfl) (by kernel_rfl) (fun _ _ _ h => h) (Or.inr ⟨by kernel_rfl, rfl⟩) (by assumption) ?_
      (try simp only [Act.put, pT])
      refine wpAnyH_take (i := 12) (v := undef) rfl (by kernel_rfl) (by kernel_rfl) (by kernel_rfl) (fun _ _ _ h => h) (Or.inr ⟨by kernel_rfl, rfl⟩) (by assumption) ?_
      (try simp only [Act.put, pT])
      refine tH 13 ?_
      (try simp only [Act.put, pT])
      refine wpAnyH_ready (rs := [14]) (by kernel_rfl) (by simp) ?_
      refine AllReadyH.cons (i := 14) rfl (fun K hK => ?_) AllReadyH.nil
      (try dsimp (config := { proj := false }) only [g0, g1, g2])
      refine step_store_row6 rfl _ _ _ rfl G #[.int .i64 (kind : Int), .int .i64 (gen : Int), .int .i64 (seq : Int), .slice q nq cq] rfl rfl 37 _ (HXG.out _ (by (repeat (first | assumption | exact Mod.refl _ _ | refine Mod.drew ?_ | refine Mod.rowSet ?_ _ _ (fun _ => rfl))))) info_frame rfl (by simp [Value.oneCell']) ?_
      refine hK.out _ _ (HK.out _ (by (repeat (first | assumption | exact Mod.refl _ _ | refine Mod.drew ?_ | refine Mod.rowSet ?_ _ _ (fun _ => rfl))))) (fun hHeld => ?_)
      clear hK K
      (try simp only [Act.put, pT])
      refine tH 15 ?_
      (try simp only [Act.put, pT])
      refine tH 16 ?_
      (try simp only [Act.put, pT])
      refine wpAnyH_done (by kernel_rfl) ?_ _
      go_wp2_with fail
      refine bodyPost_ret (results_cell_row3 rfl _ _ G 37 #[.int .i64 (kind : Int), .int .i64 (gen : Int), .int .i64 (seq : Int), .slice q nq cq] (0, 0) rfl (setRow_heap _ G _ #[.int .i64 (kind : Int), .int .i64 (gen : Int), .int .i64 (seq : Int), .slice q nq cq] _ _ (HXG.out _ (by (repeat (first | assumption | exact Mod.refl _ _ | refine Mod.drew ?_ | refine Mod.rowSet ?_ _ _ (fun _ => rfl)))))) Tryz.underlying37 info_frame) rfl ?_
      (first | exact HE.out 0 | exact HE.out 1)
    · have hkb : ((kind : Int) == 1) = true := by rw [beq_iff_eq]; omega
      by_cases hs0 : seq = 0
      rotate_left
      · have HOK : Hid (decide (kind = 1 ∧ seq = 0) = false) := Lib.hid (decide_eq_false (fun h => hs0 h.2))
        have hsb : ((seq : Int) == 0) = false := by rw [beq_eq_false_iff_ne]; omega
        clear hs0 hk1
        go_upto_region 2 with (fail)
        obtain ⟨g7, hg7⟩ : ∃ g, w3.heap.size = g := ⟨_, rfl⟩
        (try rw [hg7])
        generalize hw4 : World.alloc w3 _ = w4
        have hm4 : Mod nil w3 w4 := by rw [← hw4]; exact (Mod.refl _ _).alloc _
        have hb7 : w4.heap[g7]? = some (.cells #[.int .i64 (kind : Int), .int .i64 (gen : Int), .int .i64 (seq : Int), .slice q nq cq] 37 (0, 0)) := by rw [← hw4, ← hg7]; exact heap_alloc_new _ _
        have HK : Hid (∀ W, Mod (· = G) w4 W → (fun w' => w'.cell? ⟨g7, 0, none⟩ = some (.int .i64 (kind : Int)) ∧ w'.cell? ⟨g7, 1, none⟩ = some (.int .i64 (gen : Int)) ∧ w'.cell? ⟨g7, 2, none⟩ = some (.int .i64 (seq : Int)) ∧ w'.cell? ⟨g7, 3, none⟩ = some (.slice q nq cq)) W) := Lib.hid (fun W m => by
          have e := (m.block g7 (heap_lt hb7) (by omega)).trans hb7
          exact ⟨cell_of e 0, cell_of e 1, cell_of e 2, cell_of e 3⟩)
        have HXG : Hid (∀ W, Mod nil w4 W → W.heap[G]? = some (.cells #[.int .i64 0, .int .i64 0, .int .i64 0, .slice none 0 0] 37 (0, 0))) := Lib.hid (fun W m => m.keep (hm4.keep HX3.out))
        have HM4 := Lib.hid (HM3.out.thenNil hm4)
        have HE : Hid (∀ n, Post (.returned (.tuple #[.agg #[.int .i64 (kind : Int), .int .i64 (gen : Int), .int .i64 (seq : Int), .slice q nq cq], .int .i64 (sc : Nat), .bool false])) (World.setRow (w4.drewN n) G #[.int .i64 (kind : Int), .int .i64 (gen : Int), .int .i64 (seq : Int), .slice q nq cq])) := Lib.hid (fun n => HPOST.out _ _ ⟨(HM4.out.thenNil ((Mod.refl nil w4).drewN n)).new ((Mod.refl (· = G) _).rowSet G _ (fun _ => rfl)) (fun k h => by have := HG.out; omega), .inr ⟨kind, gen, seq, body, q, cq, HSOME.out, by rw [HNQ.out, HSC.out, HOK.out], by rw [HNQ.out]; exact (((HV3.out.modNil hm4).modNil ((Mod.refl nil w4).drewN n)).mod ((Mod.refl (· = G) _).rowSet G _ (fun _ => rfl)) (fun k _ h e => by have := h.1; have := HG2.out; omega)).mono (fun k _ h => by have := HM2.out.size; have := h.1; omega)⟩⟩)
        clear hw4 hm4 hb7 hg7
        refine wp_region_held_drew (S := (fun w' => w'.cell? ⟨g7, 0, none⟩ = some (.int .i64 (kind : Int)) ∧ w'.cell? ⟨g7, 1, none⟩ = some (.int .i64 (gen : Int)) ∧ w'.cell? ⟨g7, 2, none⟩ = some (.int .i64 (seq : Int)) ∧ w'.cell? ⟨g7, 3, none⟩ = some (.slice q nq cq))) (by kernel_rfl) (HK.out _ (by (repeat (first | assumption | exact Mod.refl _ _ | refine Mod.drew ?_ | refine Mod.rowSet ?_ _ _ (fun _ => rfl))))) (fun hHeld => ?_)
        refine tH 0 ?_
        (try simp only [Act.put, pT])
        refine tH 1 ?_
        (try simp only [Act.put, pT])
        refine tH 2 ?_
        (try simp only [Act.put, pT])
        refine tH 3 ?_
        (try simp only [Act.put, pT])
        refine tH 4 ?_
        (try simp only [Act.put, pT])
        refine tH 5 ?_
        (try simp only [Act.put, pT])
        refine tH 6 ?_
        (try simp only [Act.put, pT])
        refine tH 7 ?_
        (try simp only [Act.put, pT])
        refine tH 8 ?_
        (try simp only [Act.put, pT])
        refine tH 9 ?_
        (try simp only [Act.put, pT])
        refine tH 10 ?_
        (try simp only [Act.put, pT])
        refine tH 11 ?_
        (try simp only [Act.put, pT])
        refine tH 12 ?_
        (try simp only [Act.put, pT])
        refine tH 13 ?_
        (try simp only [Act.put, pT])
        refine wpAnyH_ready (rs := [14]) (by kernel_rfl) (by simp) ?_
        refine AllReadyH.cons (i := 14) rfl (fun K hK => ?_) AllReadyH.nil
        (try dsimp (config := { proj := false }) only [g0, g1, g2])
        refine step_store_row6 rfl _ _ _ rfl G #[.int .i64 (kind : Int), .int .i64 (gen : Int), .int .i64 (seq : Int), .slice q nq cq] rfl rfl 37 _ (HXG.out _ (by (repeat (first | assumption | exact Mod.refl _ _ | refine Mod.drew ?_ | refine Mod.rowSet ?_ _ _ (fun _ => rfl))))) info_frame rfl (by simp [Value.oneCell']) ?_
        refine hK.out _ _ (HK.out _ (by (repeat (first | assumption | exact Mod.refl _ _ | refine Mod.drew ?_ | refine Mod.rowSet ?_ _ _ (fun _ => rfl))))) (fun hHeld => ?_)
        clear hK K
        (try simp only [Act.put, pT])
        refine tH 15 ?_
        (try simp only [Act.put, pT])
        refine tH 16 ?_
        (try simp only [Act.put, pT])
        refine wpAnyH_done (by kernel_rfl) ?_ _
        go_wp2_with fail
        refine bodyPost_ret (results_cell_row3 rfl _ _ G 37 #[.int .i64 (kind : Int), .int .i64 (gen : Int), .int .i64 (seq : Int), .slice q nq cq] (0, 0) rfl (setRow_heap _ G _ #[.int .i64 (kind : Int), .int .i64 (gen : Int), .int .i64 (seq : Int), .slice q nq cq] _ _ (HXG.out _ (by (repeat (first | assumption | exact Mod.refl _ _ | refine Mod.drew ?_ | refine Mod.rowSet ?_ _ _ (fun _ => rfl)))))) Tryz.underlying37 info_frame) rfl ?_
        (first | exact HE.out 0 | exact HE.out 1)
      · have HOK : Hid (decide (kind = 1 ∧ seq = 0) = true) := Lib.hid (decide_eq_true ⟨hk1, hs0⟩)
        have hsb : ((seq : Int) == 0) = true := by rw [beq_iff_eq]; omega
        clear hs0 hk1
        go_upto_region 2 with (fail)
        obtain ⟨g7, hg7⟩ : ∃ g, w3.heap.size = g := ⟨_, rfl⟩
        (try rw [hg7])
        generalize hw4 : World.alloc w3 _ = w4
        have hm4 : Mod nil w3 w4 := by rw [← hw4]; exact (Mod.refl _ _).alloc _
        have hb7 : w4.heap[g7]? = some (.cells #[.int .i64 (kind : Int), .int .i64 (gen : Int), .int .i64 (seq : Int), .slice q nq cq] 37 (0, 0)) := by rw [← hw4, ← hg7]; exact heap_alloc_new _ _
        have HK : Hid (∀ W, Mod (· = G) w4 W → (fun w' => w'.cell? ⟨g7, 0, none⟩ = some (.int .i64 (kind : Int)) ∧ w'.cell? ⟨g7, 1, none⟩ = some (.int .i64 (gen : Int)) ∧ w'.cell? ⟨g7, 2, none⟩ = some (.int .i64 (seq : Int)) ∧ w'.cell? ⟨g7, 3, none⟩ = some (.slice q nq cq)) W) := Lib.hid (fun W m => by
          have e := (m.block g7 (heap_lt hb7) (by omega)).trans hb7
          exact ⟨cell_of e 0, cell_of e 1, cell_of e 2, cell_of e 3⟩)
        have HXG : Hid (∀ W, Mod nil w4 W → W.heap[G]? = some (.cells #[.int .i64 0, .int .i64 0, .int .i64 0, .slice none 0 0] 37 (0, 0))) := Lib.hid (fun W m => m.keep (hm4.keep HX3.out))
        have HM4 := Lib.hid (HM3.out.thenNil hm4)
        have HE : Hid (∀ n, Post (.returned (.tuple #[.agg #[.int .i64 (kind : Int), .int .i64 (gen : Int), .int .i64 (seq : Int), .slice q nq cq], .int .i64 (sc : Nat), .bool true])) (World.setRow (w4.drewN n) G #[.int .i64 (kind : Int), .int .i64 (gen : Int), .int .i64 (seq : Int), .slice q nq cq])) := Lib.hid (fun n => HPOST.out _ _ ⟨(HM4.out.thenNil ((Mod.refl nil w4).drewN n)).new ((Mod.refl (· = G) _).rowSet G _ (fun _ => rfl)) (fun k h => by have := HG.out; omega), .inr ⟨kind, gen, seq, body, q, cq, HSOME.out, by rw [HNQ.out, HSC.out, HOK.out], by rw [HNQ.out]; exact (((HV3.out.modNil hm4).modNil ((Mod.refl nil w4).drewN n)).mod ((Mod.refl (· = G) _).rowSet G _ (fun _ => rfl)) (fun k _ h e => by have := h.1; have := HG2.out; omega)).mono (fun k _ h => by have := HM2.out.size; have := h.1; omega)⟩⟩)
        clear hw4 hm4 hb7 hg7
        refine wp_region_held_drew (S := (fun w' => w'.cell? ⟨g7, 0, none⟩ = some (.int .i64 (kind : Int)) ∧ w'.cell? ⟨g7, 1, none⟩ = some (.int .i64 (gen : Int)) ∧ w'.cell? ⟨g7, 2, none⟩ = some (.int .i64 (seq : Int)) ∧ w'.cell? ⟨g7, 3, none⟩ = some (.slice q nq cq))) (by kernel_rfl) (HK.out _ (by (repeat (first | assumption | exact Mod.refl _ _ | refine Mod.drew ?_ | refine Mod.rowSet ?_ _ _ (fun _ => rfl))))) (fun hHeld => ?_)
        refine tH 0 ?_
        (try simp only [Act.put, pT])
        refine tH 1 ?_
        (try simp only [Act.put, pT])
        refine tH 2 ?_
        (try simp only [Act.put, pT])
        refine tH 3 ?_
        (try simp only [Act.put, pT])
        refine tH 4 ?_
        (try simp only [Act.put, pT])
        refine tH 5 ?_
        (try simp only [Act.put, pT])
        refine tH 6 ?_
        (try simp only [Act.put, pT])
        refine tH 7 ?_
        (try simp only [Act.put, pT])
        refine tH 8 ?_
        (try simp only [Act.put, pT])
        refine tH 9 ?_
        (try simp only [Act.put, pT])
        refine tH 10 ?_
        (try simp only [Act.put, pT])
        refine tH 11 ?_
        (try simp only [Act.put, pT])
        refine tH 12 ?_
        (try simp only [Act.put, pT])
        refine tH 13 ?_
        (try simp only [Act.put, pT])
        refine wpAnyH_ready (rs := [14]) (by kernel_rfl) (by simp) ?_
        refine AllReadyH.cons (i := 14) rfl (fun K hK => ?_) AllReadyH.nil
        (try dsimp (config := { proj := false }) only [g0, g1, g2])
        refine step_store_row6 rfl _ _ _ rfl G #[.int .i64 (kind : Int), .int .i64 (gen : Int), .int .i64 (seq : Int), .slice q nq cq] rfl rfl 37 _ (HXG.out _ (by (repeat (first | assumption | exact Mod.refl _ _ | refine Mod.drew ?_ | refine Mod.rowSet ?_ _ _ (fun _ => rfl))))) info_frame rfl (by simp [Value.oneCell']) ?_
        refine hK.out _ _ (HK.out _ (by (repeat (first | assumption | exact Mod.refl _ _ | refine Mod.drew ?_ | refine Mod.rowSet ?_ _ _ (fun _ => rfl))))) (fun hHeld => ?_)
        clear hK K
        (try simp only [Act.put, pT])
        refine tH 15 ?_
        (try simp only [Act.put, pT])
        refine tH 16 ?_
        (try simp only [Act.put, pT])
        refine wpAnyH_done (by kernel_rfl) ?_ _
        go_wp2_with fail
        refine bodyPost_ret (results_cell_row3 rfl _ _ G 37 #[.int .i64 (kind : Int), .int .i64 (gen : Int), .int .i64 (seq : Int), .slice q nq cq] (0, 0) rfl (setRow_heap _ G _ #[.int .i64 (kind : Int), .int .i64 (gen : Int), .int .i64 (seq : Int), .slice q nq cq] _ _ (HXG.out _ (by (repeat (first | assumption | exact Mod.refl _ _ | refine Mod.drew ?_ | refine Mod.rowSet ?_ _ _ (fun _ => rfl)))))) Tryz.underlying37 info_frame) rfl ?_
        (first | exact HE.out 0 | exact HE.out 1)
/-- the reference's journal: its object at block jb, all of it at blocks of S -/
structure IsRJ (S : Nat → Prop) (w : World) (jb db : Nat) (s : JS) : Prop where
  lo : S jb
  ex : ∃ pp cp nr pr cr, w.heap[jb]? = some (.cells #[.pointer (some ⟨db, 0, none⟩), .int .i64 s.half, .int .i64 s.gen, .bool s.has, .slice pp s.pict.length cp, .slice pr nr cr, .int .i64 s.at_, .int .i64 ((s.recs.length + 1 : Nat) : Int), .bool s.down] 93 (0, 0)) ∧ IsRow (fun k => (S k ∧ k ≠ jb) ∧ ¬ (Value.slice pr nr cr).ownBlock = some k) w (.slice pp s.pict.length cp) (bys s.pict) ∧ IsTextsC (fun k => S k ∧ k ≠ jb) w (.slice pr nr cr) nr s.recs
theorem IsRJ.mod {S T : Nat → Prop} {w w' : World} {jb db : Nat} {s : JS} (h : IsRJ S w jb db s) (m : Mod T w w') (hs : ∀ k, k < w.heap.size → S k → ¬ T k) : IsRJ S w' jb db s := by
  obtain ⟨pp, cp, nr, pr, cr, h1, h2, h3⟩ := h.ex
  exact ⟨h.lo, pp, cp, nr, pr, cr, (m.block jb (heap_lt h1) (hs jb (heap_lt h1) h.lo)).trans h1, h2.mod m (fun k hk h => hs k hk h.1.1), h3.mod m (fun k hk h => hs k hk h.1)⟩
theorem IsRJ.modNil {S : Nat → Prop} {w w' : World} {jb db : Nat} {s : JS} (h : IsRJ S w jb db s) (m : Mod nil w w') : IsRJ S w' jb db s := h.mod m (fun _ _ _ f => f)
theorem IsRJ.mono {S T : Nat → Prop} {w : World} {jb db : Nat} {s : JS} (h : IsRJ S w jb db s) (hs : ∀ k, k < w.heap.size → S k → T k) : IsRJ T w jb db s := by
  obtain ⟨pp, cp, nr, pr, cr, h1, h2, h3⟩ := h.ex
  exact ⟨hs jb (heap_lt h1) h.lo, pp, cp, nr, pr, cr, h1, h2.mono (fun k hk h => ⟨⟨hs k hk h.1.1, h.1.2⟩, h.2⟩), h3.mono (fun k hk h => ⟨hs k hk h.1, h.2⟩)⟩
theorem sixRoom (S B : Nat → Prop) (jb db : Nat) (s : JS) (d : DS) (w : World) (hj : IsRJ S w jb db s) (h : IsRefIn w B db d) (ha : s.at_ ≤ d.lasts.length / 2) :
    Calls Tryz.prog 43 #[.pointer (some ⟨jb, 0, none⟩)] w fun e w' => e = .returned (.int .i64 ((d.lasts.length / 2 - s.at_ : Nat) : Int)) ∧ Mod nil w w' := by
  obtain ⟨pp, cp, nr, pr, cr, h1, -, -⟩ := hj.ex
  have c0 := cell_of h1 0
  have c6 := cell_of h1 6
  simp only [List.getElem?_toArray, List.getElem?_cons_zero, List.getElem?_cons_succ] at c0 c6
  have hroom := h.room
  have HL := Lib.hid (fun W (m : Mod nil w W) => refLen db B d W (h.mod m (fun _ _ _ f => f)))
  obtain ⟨n, hn⟩ : ∃ n, d.lasts.length = n := ⟨_, rfl⟩
  rw [hn] at HL ha hroom ⊢
  obtain ⟨a, ha2⟩ : ∃ a, s.at_ = a := ⟨_, rfl⟩
  rw [ha2] at c6 ha ⊢
  obtain ⟨N, hN⟩ : ∃ N, n / 2 = N := ⟨_, rfl⟩
  rw [hN] at ha ⊢
  have hdiv : (n : Int) / 2 = (N : Int) := by omega
  have hw1 : IntKind.i64.wrap (N : Int) = (N : Int) := by rw [IntKind.wrap_i64]; omega
  have hsub : (N : Int) - (a : Int) = ((N - a : Nat) : Int) := by omega
  have hw2 : IntKind.i64.wrap ((N : Int) - (a : Int)) = ((N - a : Nat) : Int) := by rw [IntKind.wrap_i64]; omega
  have hw3 : IntKind.i64.wrap (((N - a : Nat) : Int)) = ((N - a : Nat) : Int) := by rw [IntKind.wrap_i64]; omega
  clear h1 hj h hn ha2 hN
  go_enter Tryz.func43, Tryz.ntmps43
  go_upto_region 1 with (fail)
  go_quiet (first | (go_at_call 47; exact Calls.quiet_of_same (HL.out _ (by (repeat (first | exact Mod.refl _ _ | refine Mod.drew ?_ | refine Mod.drewN ?_ _))))))
  go_wp2_with fail
  go_ret
  exact ⟨rfl, (Mod.refl _ _).drewN _⟩
end Go.Proofs.YtjilbnpehgigjaaGreat

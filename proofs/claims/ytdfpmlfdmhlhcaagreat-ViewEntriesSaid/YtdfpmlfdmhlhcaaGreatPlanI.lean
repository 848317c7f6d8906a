/- Package plan: again, Check, Place; cflref.CopyInts. -/
import Derived.Test.YtdfpmlfdmhlhcaaGreatPlanH
namespace Go.Proofs.YtdfpmlfdmhlhcaaGreat
open Go.RowKit
set_option maxRecDepth 100000 in
set_option maxHeartbeats 2000000 in
theorem planAgain (S : Nat → Prop) (v : Value) (P : Pl) (w : World) (hp : IsPl S w v P) (hf : P.few) (hh : P.hash.length ≤ 1000000000) :
    Calls Tryz.prog 69 #[v] w fun e w' => ∃ v', e = .returned (.tuple #[v', .int .i64 (makeN P.deal P.ps P.ls P.hash P.start P.eps P.wait).2]) ∧ IsPl (fun k => w.heap.size ≤ k) w' v' (makeN P.deal P.ps P.ls P.hash P.start P.eps P.wait).1 ∧ Mod nil w w' := by
  refine (?_ : ∀ Post : Ending → World → Prop, Hid (∀ e w', (∃ v', e = .returned (.tuple #[v', .int .i64 (makeN P.deal P.ps P.ls P.hash P.start P.eps P.wait).2]) ∧ IsPl (fun k => w.heap.size ≤ k) w' v' (makeN P.deal P.ps P.ls P.hash P.start P.eps P.wait).1 ∧ Mod nil w w') → Post e w') → Calls Tryz.prog 69 #[v] w Post) _ (Lib.hid (fun _ _ h => h))
  intro Post HPOST
  obtain ⟨p1, c1, p2, c2, p7, c7, rfl, h1, h2, -⟩ := hp
  obtain ⟨deal, ps, ls, Z, start, eps, wait, dl⟩ := P
  obtain ⟨f1, f2, f3, f4⟩ := hf
  simp only at *
  obtain ⟨np, hnp⟩ : ∃ n, ps.length = n := ⟨_, rfl⟩
  obtain ⟨nl, hnl⟩ : ∃ n, ls.length = n := ⟨_, rfl⟩
  obtain ⟨nd, hnd⟩ : ∃ n, dl.length = n := ⟨_, rfl⟩
  rw [hnp] at h1 f1 ⊢
  rw [hnl] at h2 f2 ⊢
  rw [hnd]
  have H1 := Lib.hid h1
  have H2 := Lib.hid h2
  have HF4 := Lib.hid f4
  obtain ⟨P1, er, hmk⟩ : ∃ P er, makeN deal ps ls Z start eps wait = (P, er) := ⟨_, _, rfl⟩
  have HMK := Lib.hid hmk
  clear h1 h2 f4 hnp hnl hnd hmk
  obtain ⟨r, hr⟩ : ∃ r, w.heap.size = r := ⟨_, rfl⟩
  obtain ⟨G, hG⟩ : ∃ G, r + 1 = G := ⟨_, rfl⟩
  go_enter Tryz.func69, Tryz.ntmps69
  go_upto_region 1 with (fail)
  (try rw [hr])
  (try rw [hG])
  generalize hw1 : World.alloc (World.alloc w _) _ = w1
  have hm1 : Mod nil w w1 := by rw [← hw1]; exact ((Mod.refl _ _).alloc _).alloc _
  have hb1 : w1.heap[r]? = some (.cells #[.int .i64 deal, .slice p1 np c1, .slice p2 nl c2, .string ⟨Z.toArray⟩, .int .i64 start, .int .i64 eps, .int .i64 wait, .slice p7 nd c7] 25 (0, 0)) := by rw [← hw1]; exact heap_alloc_old (by rw [← hr]; exact heap_alloc_new _ _)
  have hbG : w1.heap[G]? = some (.cells #[.int .i64 0, .slice none 0 0, .slice none 0 0, .string ⟨#[]⟩, .int .i64 0, .int .i64 0, .int .i64 0, .slice none 0 0] 25 (0, 0)) := by
    rw [← hw1]
    have := heap_alloc_new (w.alloc (.cells #[.int .i64 deal, .slice p1 np c1, .slice p2 nl c2, .string ⟨Z.toArray⟩, .int .i64 start, .int .i64 eps, .int .i64 wait, .slice p7 nd c7] 25)) (.cells #[.int .i64 0, .slice none 0 0, .slice none 0 0, .string ⟨#[]⟩, .int .i64 0, .int .i64 0, .int .i64 0, .slice none 0 0] 25)
    rw [World.size_alloc, hr, hG] at this
    exact this
  have a0 := cell_of hb1 0
  have a1 := cell_of hb1 1
  have a2 := cell_of hb1 2
  have a3 := cell_of hb1 3
  have a4 := cell_of hb1 4
  have a5 := cell_of hb1 5
  have a6 := cell_of hb1 6
  simp only [List.getElem?_toArray, List.getElem?_cons_zero, List.getElem?_cons_succ] at a0 a1 a2 a3 a4 a5 a6
  have HM1 := Lib.hid hm1
  have HBG := Lib.hid hbG
  have HGE : Hid (w.heap.size ≤ G) := Lib.hid (by omega)
  have hcall := planMake _ deal start eps wait p1 p2 np c1 nl c2 ps ls Z w1 (H1.out.modNil hm1) (H2.out.modNil hm1) f1 f2 HF4.out hh
  rw [HMK.out] at hcall
  simp only at hcall
  have HC := Lib.hid hcall
  clear hw1 hm1 hb1 hbG hr hG hcall
  go_wp2_with fail
  refine HC.out.mono ?_
  rintro e w2 ⟨v2, rfl, hpl, hm2⟩
  obtain ⟨q1, d1, q2, d2, q7, d7, rfl, g1, g2, g3⟩ := id hpl
  have hbG2 := hm2.keep HBG.out
  have HBG2 := Lib.hid hbG2
  obtain ⟨m1, hm1⟩ : ∃ n, P1.ps.length = n := ⟨_, rfl⟩
  obtain ⟨m2, hm2'⟩ : ∃ n, P1.ls.length = n := ⟨_, rfl⟩
  obtain ⟨m7, hm7⟩ : ∃ n, P1.dl.length = n := ⟨_, rfl⟩
  rw [hm1, hm2', hm7]
  have HE : Hid (Post (.returned (.tuple #[.agg #[.int .i64 P1.deal, .slice q1 m1 d1, .slice q2 m2 d2, .string ⟨P1.hash.toArray⟩, .int .i64 P1.start, .int .i64 P1.eps, .int .i64 P1.wait, .slice q7 m7 d7], .int .i64 er])) (w2.setRow G #[.int .i64 P1.deal, .slice q1 m1 d1, .slice q2 m2 d2, .string ⟨P1.hash.toArray⟩, .int .i64 P1.start, .int .i64 P1.eps, .int .i64 P1.wait, .slice q7 m7 d7])) := Lib.hid (by
    have mr : Mod (· = G) w2 (w2.setRow G #[.int .i64 P1.deal, .slice q1 m1 d1, .slice q2 m2 d2, .string ⟨P1.hash.toArray⟩, .int .i64 P1.start, .int .i64 P1.eps, .int .i64 P1.wait, .slice q7 m7 d7]) := (Mod.refl _ _).rowSet G _ (fun _ => rfl)
    refine HPOST.out _ _ ⟨_, by rw [HMK.out], ?_, (HM1.out.thenNil hm2).trans mr (fun k hk e => by have := HGE.out; omega)⟩
    rw [HMK.out]
    have h := (hpl.mod mr (fun k hk h e => by have := heap_lt HBG.out; omega)).mono (T := fun k => w.heap.size ≤ k) (fun k _ h => by have := HM1.out.size; omega)
    rw [hm1, hm2', hm7] at h
    exact h)
  clear hpl g1 g2 g3 hbG2 hm1 hm2' hm7 hm2
  go_wp2_with (refine wpList_store_row rfl _ _ _ rfl G #[.int .i64 P1.deal, .slice q1 m1 d1, .slice q2 m2 d2, .string ⟨P1.hash.toArray⟩, .int .i64 P1.start, .int .i64 P1.eps, .int .i64 P1.wait, .slice q7 m7 d7] rfl rfl 25 _ HBG2.out info_plan rfl (by simp [Value.oneCell']) ?_)
  refine bodyPost_ret (results_cell_row2 rfl _ _ G 25 #[.int .i64 P1.deal, .slice q1 m1 d1, .slice q2 m2 d2, .string ⟨P1.hash.toArray⟩, .int .i64 P1.start, .int .i64 P1.eps, .int .i64 P1.wait, .slice q7 m7 d7] (0, 0) rfl (setRow_heap w2 G _ #[.int .i64 P1.deal, .slice q1 m1 d1, .slice q2 m2 d2, .string ⟨P1.hash.toArray⟩, .int .i64 P1.start, .int .i64 P1.eps, .int .i64 P1.wait, .slice q7 m7 d7] _ _ HBG2.out) Tryz.underlying25 info_plan) rfl ?_
  exact HE.out
theorem planOver (g : Nat) (x n : Int) (w : World) (hc : w.cell? ⟨g, 0, none⟩ = some (.int .i64 n)) :
    Calls Tryz.prog 72 #[.int .i64 x, .pointer (some ⟨g, 0, none⟩)] w fun e w' => e = .returned (.bool (decide (n ≤ x))) ∧ w = w' := by
  go_enter Tryz.func72, Tryz.ntmps72
  go_wp2_with fail
  go_ret
  exact ⟨rfl, rfl⟩
set_option maxRecDepth 100000 in
set_option maxHeartbeats 1000000 in
theorem containsOver (T : Nat → Prop) (p : Option Addr) (len cap g : Nat) (n : Int) (l : List Int) (w : World) (hrow : IsRow T w (.slice p len cap) (l.map (.int .i64))) (hc : w.cell? ⟨g, 0, none⟩ = some (.int .i64 n)) (hmax : len ≤ 1000000) :
    Calls Tryz.prog 71 #[.slice p len cap, .func (.func 72) #[] #[.pointer (some ⟨g, 0, none⟩)]] w fun e w' => e = .returned (.bool (l.any (fun x => decide (n ≤ x)))) ∧ w = w' := by
  have hlen : l.length = len := by obtain ⟨_, _, h, _⟩ := hrow; simp only [Value.slice.injEq, List.length_map] at h; exact h.2.1.symm
  have HROW := Lib.hid hrow
  have HN := Lib.hid hlen
  clear hrow hlen
  have HI : Hid (Calls Tryz.prog 120 #[.slice p len cap, .func (.func 72) #[] #[.pointer (some ⟨g, 0, none⟩)]] w fun e w' => (∃ k : Int, e = .returned (.int .i64 k) ∧ (l.any (fun x => decide (n ≤ x))) = decide (0 ≤ k)) ∧ w = w') := Lib.hid (by
    refine (?_ : ∀ Post : Ending → World → Prop, Hid (∀ e w', ((∃ k : Int, e = .returned (.int .i64 k) ∧ (l.any (fun x => decide (n ≤ x))) = decide (0 ≤ k)) ∧ w = w') → Post e w') → Calls Tryz.prog 120 #[.slice p len cap, .func (.func 72) #[] #[.pointer (some ⟨g, 0, none⟩)]] w Post) _ (Lib.hid (fun _ _ h => h))
    intro Post HPOST
    have HC := Lib.hid hc
    clear hc
    go_enter Tryz.func120, Tryz.ntmps120
    go_wp2_with fail
    go_loopw [8] (fun v8 wr => ∃ i : Nat, i ≤ len ∧ v8 = .int .i64 i ∧ Hid (∀ x ∈ l.take i, x < n) ∧ wr = w) (fun v _ => len - (intOf v).toNat)
    case atStart => exact ⟨0, by omega, rfl, Lib.hid (by simp), rfl⟩
    case round =>
      obtain ⟨i, hi, rfl, HLF, hwr⟩ := hrel
      rw [hwr]
      clear hwr
      by_cases hlt : i < len
      · have hil : i < l.length := by rw [HN.out]; exact hlt
        obtain ⟨x, hx⟩ : ∃ x, l[i] = x := ⟨_, rfl⟩
        obtain ⟨p', c', he, hcc⟩ := HROW.out
        obtain ⟨b, off, rfl, -, -, hcell⟩ := hcc i (by rw [List.length_map]; exact hil)
        simp only [Value.slice.injEq] at he
        obtain ⟨rfl, -, -⟩ := he
        have k0 : w.cell? ⟨b, off + i, none⟩ = some (.int .i64 x) := by rw [hcell, ← hx]; simp [hil]
        have HT : Hid (l.take (i + 1) = l.take i ++ [x]) := Lib.hid (by rw [List.take_succ_eq_append_getElem hil, hx])
        have HLM : Hid (x ∈ l) := Lib.hid (by rw [← hx]; exact List.getElem_mem _)
        clear hcc hcell hx
        by_cases hxn : n ≤ x
        · have HE : Hid (Post (.returned (.int .i64 i)) w) := Lib.hid (HPOST.out _ _ ⟨⟨i, rfl, by
            rw [decide_eq_true (by omega), List.any_eq_true]
            exact ⟨x, HLM.out, decide_eq_true hxn⟩⟩, rfl⟩)
          have hd := decide_eq_true hxn
          go_wp2_with fail
          refine (planOver g x n w HC.out).mono ?_
          rw [hd]
          rintro e w' ⟨rfl, rfl⟩
          go_wp2_with fail
          exact HE.out
        · have HLN : Hid (∀ y ∈ l.take (i + 1), y < n) := Lib.hid (by
            rw [HT.out]
            intro y hy
            rcases List.mem_append.1 hy with h | h
            · exact HLF.out y h
            · rw [List.mem_singleton.1 h]; omega)
          have hd := decide_eq_false hxn
          go_wp2_with fail
          refine (planOver g x n w HC.out).mono ?_
          rw [hd]
          rintro e w' ⟨rfl, rfl⟩
          go_wp2_with fail
          exact ⟨⟨i + 1, by omega, by go_num, HLN, trivial⟩, by simp [intOf]; omega⟩
      · obtain rfl : i = len := by omega
        have HE : Hid (Post (.returned (.int .i64 (-1))) w) := Lib.hid (HPOST.out _ _ ⟨⟨-1, rfl, by
          rw [decide_eq_false (by omega), List.any_eq_false]
          intro y hy
          have := HLF.out y (by rw [List.take_of_length_le (by rw [HN.out]; exact Nat.le_refl _)]; exact hy)
          simp; omega⟩, rfl⟩)
        go_wp2_with fail
        exact HE.out)
  obtain ⟨r, hr0⟩ : ∃ r, (l.any (fun x => decide (n ≤ x))) = r := ⟨_, rfl⟩
  rw [hr0] at HI ⊢
  clear hr0 hc
  go_enter Tryz.func71, Tryz.ntmps71
  go_wp2_with fail
  refine HI.out.mono ?_
  rintro e w' ⟨⟨k, rfl, rfl⟩, rfl⟩
  go_wp2_with fail
  go_ret
  exact ⟨rfl, rfl⟩
end Go.Proofs.YtdfpmlfdmhlhcaaGreat

/- cflref6: the journal: Open. (Printed by wip/tools/gen_sixopen.py.) -/
import Derived.Test.YtdfahddpkkeldaaGreatShort
import Derived.Test.YtdfahddpkkeldaaGreatSixAppend
import Derived.Test.YtdfahddpkkeldaaGreatJLaw
import Derived.Test.YtdfahddpkkeldaaGreatRefNew
set_option linter.unusedSimpArgs false
set_option linter.unusedVariables false
namespace Go.Proofs.YtdfahddpkkeldaaGreat
open Go.RowKit
theorem sectorsAt_add (d : DS) (base a : Nat) : ∀ k, sectorsAt d base (a + k) = sectorsAt d base a ++ sectorsAt d (base + a) k
 | 0 => by simp [sectorsAt]
 | k + 1 => by rw [← Nat.add_assoc, sectorsAt, sectorsAt_add d base a k, sectorsAt, List.append_assoc, Nat.add_assoc base a k]
theorem sectorsAt_drop (d : DS) (base a N : Nat) (ha : a ≤ N) (h : ∀ i, i < a → (d.read ((base + i : Nat) : Int)).1.length = 64) : (sectorsAt d base N).drop (64 * a) = sectorsAt d (base + a) (N - a) := by
 obtain ⟨k, rfl⟩ : ∃ k, N = a + k := ⟨N - a, by omega⟩
 rw [sectorsAt_add, List.drop_append_of_le_length (by rw [sectorsAt_length d base a h]; exact Nat.le_refl _), List.drop_of_length_le (by rw [sectorsAt_length d base a h]; exact Nat.le_refl _), List.nil_append, Nat.add_sub_cancel_left]
theorem row_none0 (S : Nat → Prop) (w : World) : IsRow S w (.slice none 0 0) (bys []) := ⟨none, 0, rfl, fun i hi => by simp [bys] at hi⟩
theorem sixOpenDown (F : Nat → Prop) (B : Nat → Prop) (db : Nat) (d : DS) (w : World) (h : IsRefIn w B db d) (hF : ∀ k, B k → F k) (hd : d.down = true) :
    Calls Tryz.prog 33 #[.pointer (some ⟨db, 0, none⟩)] w fun e w' => ∃ jb, e = .returned (.pointer (some ⟨jb, 0, none⟩)) ∧ w.heap.size ≤ jb ∧ IsRJD (fun k => F k ∨ w.heap.size ≤ k) w' jb db d.opens d ∧ Mod nil w w' := by
  refine (?_ : ∀ Post : Ending → World → Prop, Hid (∀ e w', (∃ jb, e = .returned (.pointer (some ⟨jb, 0, none⟩)) ∧ w.heap.size ≤ jb ∧ IsRJD (fun k => F k ∨ w.heap.size ≤ k) w' jb db d.opens d ∧ Mod nil w w') → Post e w') → Calls Tryz.prog 33 #[.pointer (some ⟨db, 0, none⟩)] w Post) _ (Lib.hid (fun _ _ h => h))
  intro Post HPOST
  have ho : d.opens = JS.fresh d := by unfold DS.opens; rw [if_pos hd]
  rw [ho] at HPOST
  obtain ⟨P1, P2, P3, v1, v2, v3, hda, -, -⟩ := id h
  have HD := Lib.hid h
  obtain ⟨jb, hjb⟩ : ∃ g, w.heap.size = g := ⟨_, rfl⟩
  have c4 : (w.alloc (.cells #[.pointer (some ⟨db, 0, none⟩), .int .i64 0, .int .i64 0, .bool false, .slice none 0 0, .slice none 0 0, .int .i64 0, .int .i64 1, .bool false] 103)).cell? ⟨db, 4, none⟩ = some (.bool true) := by
    have := cell_of (heap_alloc_old (o := .cells #[.pointer (some ⟨db, 0, none⟩), .int .i64 0, .int .i64 0, .bool false, .slice none 0 0, .slice none 0 0, .int .i64 0, .int .i64 1, .bool false] 103) hda.obj) 4
    rw [hd] at this
    exact this
  have HE : Hid (Post (.returned (.pointer (some ⟨jb, 0, none⟩))) (w.alloc (.cells #[.pointer (some ⟨db, 0, none⟩), .int .i64 0, .int .i64 0, .bool false, .slice none 0 0, .slice none 0 0, .int .i64 0, .int .i64 1, .bool true] 103))) := Lib.hid (by
    have q := heap_alloc_new w (.cells #[.pointer (some ⟨db, 0, none⟩), .int .i64 0, .int .i64 0, .bool false, .slice none 0 0, .slice none 0 0, .int .i64 0, .int .i64 1, .bool true] 103)
    rw [hjb] at q
    have hm : Mod nil w (w.alloc (.cells #[.pointer (some ⟨db, 0, none⟩), .int .i64 0, .int .i64 0, .bool false, .slice none 0 0, .slice none 0 0, .int .i64 0, .int .i64 1, .bool true] 103)) := (Mod.refl nil w).alloc _
    have hsz : w.heap.size < (w.alloc (.cells #[.pointer (some ⟨db, 0, none⟩), .int .i64 0, .int .i64 0, .bool false, .slice none 0 0, .slice none 0 0, .int .i64 0, .int .i64 1, .bool true] 103)).heap.size := by rw [World.size_alloc]; omega
    generalize World.alloc w _ = W at *
    refine HPOST.out _ _ ⟨jb, rfl, by omega, ⟨fun k => k = jb, fun k => B k ∧ k < w.heap.size, ⟨rfl, none, 0, 0, none, 0, ?_, row_none0 _ _, IsTextsC.nil _ _⟩, (HD.out.here).mod hm (fun _ _ _ f => f), fun k hk hB => by have := hB.2; omega, fun k hk => ?_⟩, hm⟩
    · rw [q]
      unfold JS.fresh
      rw [hd]
      rfl
    · rcases hk with hk | hk
      · exact ⟨.inr (by omega), by omega⟩
      · exact ⟨.inl (hF k hk.1), by have := hk.2; omega⟩)
  have z8 : (w.alloc (.cells #[.pointer (some ⟨db, 0, none⟩), .int .i64 0, .int .i64 0, .bool false, .slice none 0 0, .slice none 0 0, .int .i64 0, .int .i64 1, .bool false] 103)).frozen? ⟨jb, 8, none⟩ = false := by rw [← hjb]; exact free_of (heap_alloc_new _ _) 8
  clear h hda hd ho
  go_enter Tryz.func33, Tryz.ntmps33
  go_wp2_with fail
  exact HE.out
theorem IsRJ.took {S : Nat → Prop} {w W : World} {jb db : Nat} {s : JS} (h : IsRJ S w jb db s) (m : Mod nil w W) (hf gn at_ c : Nat) (q : Option Addr) (body : List UInt8) (hv : IsRow (fun k => w.heap.size ≤ k) W (.slice q body.length c) (bys body)) (hS : ∀ k, w.heap.size ≤ k → S k) :
  IsRJ S (((((W.setCell ⟨jb, 1, none⟩ (.int .i64 hf)).setCell ⟨jb, 2, none⟩ (.int .i64 gn)).setCell ⟨jb, 3, none⟩ (.bool true)).setCell ⟨jb, 4, none⟩ (.slice q body.length c)).setCell ⟨jb, 6, none⟩ (.int .i64 at_)) jb db { s with half := hf, gen := gn, has := true, pict := body, at_ := at_ } := by
 obtain ⟨pp, cp, nr, pr, cr, h1, h2, h3⟩ := h.ex
 have hjl := heap_lt h1
 have g0 := m.keep h1
 have g1 := heap_setCell_same g0 (.int .i64 hf) (off := 1)
 have g2 := heap_setCell_same g1 (.int .i64 gn) (off := 2)
 have g3 := heap_setCell_same g2 (.bool true) (off := 3)
 have g4 := heap_setCell_same g3 (.slice q body.length c) (off := 4)
 have g6 := heap_setCell_same g4 (.int .i64 at_) (off := 6)
 simp only [List.setIfInBounds_toArray, List.set_cons_succ, List.set_cons_zero] at g6
 have ms : Mod (· = jb) W (((((W.setCell ⟨jb, 1, none⟩ (.int .i64 hf)).setCell ⟨jb, 2, none⟩ (.int .i64 gn)).setCell ⟨jb, 3, none⟩ (.bool true)).setCell ⟨jb, 4, none⟩ (.slice q body.length c)).setCell ⟨jb, 6, none⟩ (.int .i64 at_)) := (((((Mod.refl (· = jb) W).setCell _ _ (fun _ => rfl)).setCell _ _ (fun _ => rfl)).setCell _ _ (fun _ => rfl)).setCell _ _ (fun _ => rfl)).setCell _ _ (fun _ => rfl)
 have hmm := m.ofNil (S := (· = jb)) |>.trans ms (fun _ _ h => h)
 exact ⟨h.lo, q, c, nr, pr, cr, g6, (hv.mod ms (fun k _ hk e => by omega)).mono (fun k _ hk => ⟨⟨hS k hk, by omega⟩, fun ho => by have := (h3.own ho).2; omega⟩), h3.mod hmm (fun k _ hk e => hk.2 e)⟩
theorem gotAt {b : List UInt8} {kind gen seq fb : Nat} {pq : Option Addr} {lq cq n : Nat} {er : Int} {w0 wa W0 wg : World} (h : GotR b kind gen seq pq lq cq n er W0 wg) (ha : Mod nil wa W0) (hf : fb < wa.heap.size) (hw : Mod nil w0 W0) (ws : World) (m : Mod (· = fb) wg ws) : GotR b kind gen seq pq lq cq n er w0 ws :=
 h.mod m (fun k _ hk2 e => by have := ha.size; omega) hw.size
theorem gotNil {b : List UInt8} {kind gen seq : Nat} {pq : Option Addr} {lq cq n : Nat} {er : Int} {w0 W0 wg : World} (h : GotR b kind gen seq pq lq cq n er W0 wg) (hw : Mod nil w0 W0) (ws : World) (m : Mod nil wg ws) : GotR b kind gen seq pq lq cq n er w0 ws :=
 h.mod m (fun _ _ _ => not_nil _) hw.size
theorem sixGet1 (T : Nat → Prop) (p : Option Addr) (len cap : Nat) (b : List UInt8) (w : World) (hrow : IsRow T w (.slice p len cap) (bys b)) (hcap : len ≤ cap) (hcm : cap ≤ maxLen) (hlm : len ≤ 1000000000) :
  Calls Tryz.prog 59 #[.slice p len cap] w fun e w' => ∃ (kind gen seq : Nat) (pq : Option Addr) (lq cq n : Nat) (er : Int), e = .returned (.tuple #[.agg #[.int .i64 (kind : Nat), .int .i64 (gen : Nat), .int .i64 (seq : Nat), .slice pq lq cq], .int .i64 n, .int .i64 er]) ∧ GotR b kind gen seq pq lq cq n er w w' ∧ Mod nil w w' := by
 refine (sixGet T p len cap b w hrow hcap hcm hlm).mono ?_
 rintro e w' ⟨hm1, ⟨hnone, rfl⟩ | ⟨kind, gen, seq, body, q, c, hsome, rfl, hv⟩⟩
 ·exact ⟨0, 0, 0, none, 0, 0, 0, 2, rfl, .inl ⟨hnone, rfl⟩, hm1⟩
 ·exact ⟨kind, gen, seq, q, body.length, c, sectorsF body.length, 0, rfl, .inr ⟨body, hsome, rfl, rfl, rfl, hv⟩, hm1⟩
set_option maxRecDepth 100000 in
set_option maxHeartbeats 8000000 in
theorem sixOpenUp (F : Nat → Prop) (B : Nat → Prop) (db : Nat) (d : DS) (w : World) (h : IsRefIn w B db d) (hF : ∀ k, B k → F k) (hd : d.down = false) (hr64 : ∀ i, (d.read i).1.length ≤ 64) (h64 : ∀ i : Nat, i < d.lasts.length → (d.read (i : Int)).1.length = 64) :
    Calls Tryz.prog 33 #[.pointer (some ⟨db, 0, none⟩)] w fun e w' => ∃ jb, e = .returned (.pointer (some ⟨jb, 0, none⟩)) ∧ w.heap.size ≤ jb ∧ IsRJD (fun k => F k ∨ w.heap.size ≤ k) w' jb db d.opens d ∧ Mod nil w w' := by
  refine (?_ : ∀ Post : Ending → World → Prop, Hid (∀ e w', (∃ jb, e = .returned (.pointer (some ⟨jb, 0, none⟩)) ∧ w.heap.size ≤ jb ∧ IsRJD (fun k => F k ∨ w.heap.size ≤ k) w' jb db d.opens d ∧ Mod nil w w') → Post e w') → Calls Tryz.prog 33 #[.pointer (some ⟨db, 0, none⟩)] w Post) _ (Lib.hid (fun _ _ h => h))
  intro Post HPOST
  have ho : d.opens = d.looks.follows (halfOf d d.looks.half) := by unfold DS.opens; rw [if_neg (by rw [hd]; decide)]
  rw [ho] at HPOST
  obtain ⟨P1, P2, P3, v1, v2, v3, hda, -, -⟩ := id h
  have HD := Lib.hid h
  have hF_ := Lib.hid hF
  have HR64 := Lib.hid hr64
  have H64 := Lib.hid h64
  have HDN := Lib.hid hd
  obtain ⟨jb, hjb⟩ : ∃ g, w.heap.size = g := ⟨_, rfl⟩
  obtain ⟨w1, hw1⟩ : ∃ W, w.alloc (.cells #[.pointer (some ⟨db, 0, none⟩), .int .i64 0, .int .i64 0, .bool false, .slice none 0 0, .slice none 0 0, .int .i64 0, .int .i64 1, .bool false] 103) = W := ⟨_, rfl⟩
  have c4 : w1.cell? ⟨db, 4, none⟩ = some (.bool false) := by
    rw [← hw1]
    have := cell_of (heap_alloc_old (o := .cells #[.pointer (some ⟨db, 0, none⟩), .int .i64 0, .int .i64 0, .bool false, .slice none 0 0, .slice none 0 0, .int .i64 0, .int .i64 1, .bool false] 103) hda.obj) 4
    rw [hd] at this
    exact this
  have hm1 : Mod nil w w1 := by rw [← hw1]; exact (Mod.refl _ _).alloc _
  have hj1 : IsRJ (fun k => w.heap.size ≤ k) w1 jb db (JS.fresh d) := ⟨by omega, none, 0, 0, none, 0, by
    rw [← hw1, ← hjb]
    unfold JS.fresh
    rw [hd]
    exact heap_alloc_new _ _, row_none0 _ _, IsTextsC.nil _ _⟩
  have HJ1 := Lib.hid hj1
  have HM1 := Lib.hid hm1
  have HJB : Hid (w.heap.size = jb) := Lib.hid hjb
  clear h hda hd hr64 h64 ho hm1 hj1 hF
  go_enter Tryz.func33, Tryz.ntmps33
  go_wp2_with fail
  clear c4 hw1 hjb
  have HRM := Lib.hid HD.out.room
  obtain ⟨N, hN⟩ : ∃ N, d.lasts.length / 2 = N := ⟨_, rfl⟩
  have HNN := Lib.hid hN
  clear hN
  go_loopw [4] (fun v4 wr => ∃ (hh : Nat) (s : JS), hh ≤ 2 ∧ v4 = .int .i64 hh ∧ Hid ((hh = 0 ∧ s = JS.fresh d) ∨ (hh = 1 ∧ s = (JS.fresh d).takes 0 (halfOf d 0)) ∨ (hh = 2 ∧ s = d.looks)) ∧ Hid (IsRJ (fun k => w.heap.size ≤ k) wr jb db s) ∧ Hid (Mod nil w wr)) (fun v _ => 2 - (intOf v).toNat)
  case atStart => exact ⟨0, JS.fresh d, by omega, rfl, Lib.hid (.inl ⟨rfl, rfl⟩), HJ1, HM1⟩
  case round =>
    obtain ⟨hh, s, hh2, rfl, HST, HJ, HM⟩ := hrel
    by_cases hlt : hh < 2
    · have HHD := Lib.hid (sixHead jb db hh N B d wr (by obtain ⟨_, _, _, _, _, e, -, -⟩ := HJ.out.ex; exact cell_of e 0) (HD.out.mod HM.out (fun _ _ _ f => f)) HNN.out (by omega) HR64.out)
      have HSTN : Hid ((hh + 1 = 0 ∧ s.takes hh (halfOf d hh) = JS.fresh d) ∨ (hh + 1 = 1 ∧ s.takes hh (halfOf d hh) = (JS.fresh d).takes 0 (halfOf d 0)) ∨ (hh + 1 = 2 ∧ s.takes hh (halfOf d hh) = d.looks)) := Lib.hid (by
        rcases HST.out with ⟨rfl, rfl⟩ | ⟨rfl, rfl⟩ | ⟨rfl, rfl⟩
        · exact .inr (.inl ⟨rfl, rfl⟩)
        · exact .inr (.inr ⟨rfl, rfl⟩)
        · omega)
      obtain ⟨TB, hTB⟩ : ∃ x, sectorsAt d (hh * N) N = x := ⟨_, rfl⟩
      have HTB : Hid (halfOf d hh = TB) := Lib.hid (by unfold halfOf; rw [HNN.out]; exact hTB)
      rw [hTB] at HHD
      rw [HTB.out] at HSTN
      clear hTB HST
      go_wp2_with fail
      refine HHD.out.mono ?_
      rintro e w2 ⟨hm2, hcase⟩
      rcases hcase with ⟨hno, rfl⟩ | ⟨kind, gen, seq, body, q, c, hsome, rfl, hv⟩
      · have hs : s.takes hh TB = s := by unfold JS.takes; rw [hno]
        rw [hs] at HSTN
        clear hs hno
        go_upto_region 9 with (fail)
        generalize hw3 : World.alloc w2 _ = w3
        have hm3 : Mod nil w2 w3 := by rw [← hw3]; exact (Mod.refl _ _).alloc _
        have HJ3 := Lib.hid ((HJ.out.modNil hm2).modNil hm3)
        have HM3 := Lib.hid ((HM.out.thenNil hm2).thenNil hm3)
        clear hw3 hm2 hm3
        go_quiet (fail)
        go_wp2_with fail
        exact ⟨⟨hh + 1, s, by omega, by go_num, HSTN, Lib.hid (HJ3.out.modNil ((Mod.refl _ _).drewN _)), Lib.hid (HM3.out.drewN _)⟩, by simp [intOf]; omega⟩
      · have hs0 : s.takes hh TB = if kind = 1 ∧ seq = 0 ∧ ¬ (s.has = true ∧ gen ≤ s.gen) then { s with half := hh, gen := gen, has := true, pict := body, at_ := sectorsF body.length } else s := by unfold JS.takes; rw [hsome]
        have HS0 := Lib.hid hs0
        clear hs0
        obtain ⟨ok, hok⟩ : ∃ x, decide (kind = 1 ∧ seq = 0) = x := ⟨_, rfl⟩
        rw [hok]
        have HOK := Lib.hid hok
        have HV2 := Lib.hid hv
        obtain ⟨nb, hnb⟩ : ∃ x, body.length = x := ⟨_, rfl⟩
        rw [hnb]
        have HNB := Lib.hid hnb
        obtain ⟨K, hK⟩ : ∃ x, sectorsF nb = x := ⟨_, rfl⟩
        rw [hK]
        have HKK := Lib.hid hK
        clear hok hsome hv hnb hK
        cases ok with
        | false =>
          have hs : s.takes hh TB = s := by rw [HS0.out, if_neg (fun h => by have := HOK.out; simp at this; exact this h.1 h.2.1)]
          rw [hs] at HSTN
          clear hs
          go_upto_region 9 with (fail)
          generalize hw3 : World.alloc w2 _ = w3
          have hm3 : Mod nil w2 w3 := by rw [← hw3]; exact (Mod.refl _ _).alloc _
          have HJ3 := Lib.hid ((HJ.out.modNil hm2).modNil hm3)
          have HM3 := Lib.hid ((HM.out.thenNil hm2).thenNil hm3)
          clear hw3 hm2 hm3
          go_quiet (fail)
          go_wp2_with fail
          exact ⟨⟨hh + 1, s, by omega, by go_num, HSTN, Lib.hid (HJ3.out.modNil ((Mod.refl _ _).drewN _)), Lib.hid (HM3.out.drewN _)⟩, by simp [intOf]; omega⟩
        | true =>
          obtain ⟨fb, hfb⟩ : ∃ x, w2.heap.size = x := ⟨_, rfl⟩
          have HKS : Hid (kind = 1 ∧ seq = 0) := Lib.hid (by have := HOK.out; simpa using this)
          go_upto_region 9 with (fail)
          (try rw [hfb])
          generalize hw3 : World.alloc w2 _ = w3
          have hm3 : Mod nil w2 w3 := by rw [← hw3]; exact (Mod.refl _ _).alloc _
          have HJ3 := Lib.hid ((HJ.out.modNil hm2).modNil hm3)
          have HM3 := Lib.hid ((HM.out.thenNil hm2).thenNil hm3)
          have hb3 : w3.heap[fb]? = some (.cells #[.int .i64 (kind : Nat), .int .i64 (gen : Nat), .int .i64 (seq : Nat), .slice q nb c] 122 (0, 0)) := by rw [← hw3, ← hfb]; exact heap_alloc_new _ _
          have HFB := Lib.hid hfb
          have HM23 := Lib.hid (hm2.thenNil hm3)
          have HV3 := Lib.hid ((HV2.out.row).modNil hm3)
          have HFJ : Hid (jb < fb) := Lib.hid (by rw [← hfb]; have := HJ.out.here.lo.2; have := hm2.size; omega)
          clear hw3 hm3 hm2 HV2 hfb
          have HB3 := Lib.hid hb3
          have f1 := cell_of hb3 1
          simp only [List.getElem?_toArray, List.getElem?_cons_zero, List.getElem?_cons_succ] at f1
          obtain ⟨pp, cp, nr, pr, cr, hj3, -, -⟩ := HJ3.out.ex
          have g2 := cell_of hj3 2
          have g3 := cell_of hj3 3
          have HB4 := Lib.hid hj3
          simp only [List.getElem?_toArray, List.getElem?_cons_zero, List.getElem?_cons_succ] at g2 g3
          obtain ⟨hs, hhs⟩ : ∃ x, s.has = x := ⟨_, rfl⟩
          obtain ⟨gg, hgg⟩ : ∃ x, s.gen = x := ⟨_, rfl⟩
          rw [hhs] at g3
          rw [hgg] at g2
          have HHS := Lib.hid hhs
          have HGG := Lib.hid hgg
          clear hb3 hj3 hhs hgg
          by_cases hold : hs = true ∧ gen ≤ gg
          · obtain ⟨rfl, hle⟩ := hold
            have ht : s.takes hh TB = s := by rw [HS0.out, if_neg (fun h => h.2.2 ⟨HHS.out, by rw [HGG.out]; exact hle⟩)]
            rw [ht] at HSTN
            have hd1 : decide ((gg : Int) < (gen : Int)) = false := by simp; omega
            have hd2 : decide (gg < gen) = false := by simp; omega
            clear ht hle
            go_quiet (fail)
            go_wp2_with fail
            exact ⟨⟨hh + 1, s, by omega, by go_num, HSTN, Lib.hid (HJ3.out.modNil ((Mod.refl _ _).drewN _)), Lib.hid (HM3.out.drewN _)⟩, by simp [intOf]; omega⟩
          · have ht : s.takes hh TB = { s with half := hh, gen := gen, has := true, pict := body, at_ := sectorsF body.length } := by rw [HS0.out, if_pos ⟨HKS.out.1, HKS.out.2, fun h => hold ⟨HHS.out.symm.trans h.1, by rw [← HGG.out]; exact h.2⟩⟩]
            rw [ht] at HSTN
            have HEND : Hid (∀ V, Mod nil w3 V → Hid (IsRJ (fun k => w.heap.size ≤ k) (((((V.setCell ⟨jb, 1, none⟩ (.int .i64 hh)).setCell ⟨jb, 2, none⟩ (.int .i64 gen)).setCell ⟨jb, 3, none⟩ (.bool true)).setCell ⟨jb, 4, none⟩ (.slice q nb c)).setCell ⟨jb, 6, none⟩ (.int .i64 K)) jb db { s with half := hh, gen := gen, has := true, pict := body, at_ := sectorsF body.length }) ∧ Hid (Mod nil w (((((V.setCell ⟨jb, 1, none⟩ (.int .i64 hh)).setCell ⟨jb, 2, none⟩ (.int .i64 gen)).setCell ⟨jb, 3, none⟩ (.bool true)).setCell ⟨jb, 4, none⟩ (.slice q nb c)).setCell ⟨jb, 6, none⟩ (.int .i64 K)))) := Lib.hid (fun V mm => by
              have hlo := HJ.out.lo
              have q1 := IsRJ.took HJ.out (HM23.out.thenNil mm) hh gen K c q body (HV3.out.modNil mm) (fun k hk => Nat.le_trans HM.out.size hk)
              rw [HNB.out] at q1
              refine ⟨Lib.hid (by rw [HNB.out, HKK.out]; exact q1), Lib.hid ?_⟩
              exact (HM3.out.thenNil mm).new ((((((Mod.refl (· = jb) V).setCell _ _ (fun _ => rfl)).setCell _ _ (fun _ => rfl)).setCell _ _ (fun _ => rfl)).setCell _ _ (fun _ => rfl)).setCell _ _ (fun _ => rfl)) (fun i e => by rw [e]; exact hlo))
            clear ht
            by_cases hh0 : hs = true
            · subst hh0
              have hd1 : decide ((gg : Int) < (gen : Int)) = true := by simp; by_cases h : gen ≤ gg; exact absurd ⟨rfl, h⟩ hold; omega
              have hd2 : decide (gg < gen) = true := by simp; by_cases h : gen ≤ gg; exact absurd ⟨rfl, h⟩ hold; omega
              clear hold
              go_quiet (fail)
              generalize hw4 : World.drewN w3 _ = w4
              have hm4 : Mod nil w3 w4 := by rw [← hw4]; exact (Mod.refl _ _).drewN _
              have HM4 := Lib.hid hm4
              have hj4 := hm4.keep HB4.out
              have z1 := free_of hj4 1
              have z2 := free_of hj4 2
              have z3 := free_of hj4 3
              have z4 := free_of hj4 4
              have z6 := free_of hj4 6
              have y1 := cell_of hj4 1
              have y2 := cell_of hj4 2
              have y3 := cell_of hj4 3
              have y4 := cell_of hj4 4
              have y6 := cell_of hj4 6
              simp only [List.getElem?_toArray, List.getElem?_cons_zero, List.getElem?_cons_succ] at y1 y2 y3 y4 y6
              have HK10 : Hid (∀ W, Mod (· = jb) w4 W → (fun w' => w'.cell? ⟨fb, 1, none⟩ = some (.int .i64 (gen : Int)) ∧ w'.cell? ⟨fb, 3, none⟩ = some (.slice q nb c)) W) := Lib.hid (fun W mm => by
                have e := (mm.block fb (heap_lt (hm4.keep HB3.out)) (by have := HFJ.out; omega)).trans (hm4.keep HB3.out)
                exact ⟨cell_of e 1, cell_of e 3⟩)
              have HJF : Hid (jb < fb) := HFJ
              clear hw4 hm4 hj4 g2 g3 f1
              go_upto_region 10 with (fail)
              refine region_till (fun w' => w'.cell? ⟨fb, 1, none⟩ = some (.int .i64 (gen : Int)) ∧ w'.cell? ⟨fb, 3, none⟩ = some (.slice q nb c)) 22 (by kernel_rfl) ?_
              refine sF 0 (fun _ => HK10.out _ mS) ?_
              refine sF 1 (fun _ => HK10.out _ mS) ?_
              refine sF 2 (fun _ => HK10.out _ mS) ?_
              refine sF 3 (fun _ => HK10.out _ mS) ?_
              refine sF 4 (fun _ => HK10.out _ mS) ?_
              refine sF 5 (fun _ => HK10.out _ mS) ?_
              refine sF 6 (fun _ => HK10.out _ mS) ?_
              refine sT 7 (HK10.out _ mS) ?_
              refine sF 8 (fun _ => HK10.out _ mS) ?_
              refine sT 9 (HK10.out _ mS) ?_
              refine sF 10 (fun _ => HK10.out _ mS) ?_
              refine sF 11 (fun _ => HK10.out _ mS) ?_
              refine sF 12 (fun _ => HK10.out _ mS) ?_
              refine rT 13 (fun K hK => ?_)
              go_simp
              refine hK.out _ _ (fun _ => HK10.out _ mS) ?_
              clear hK K
              (try simp only [Act.put, pT])
              refine sF 14 (fun _ => HK10.out _ mS) ?_
              refine sF 15 (fun _ => HK10.out _ mS) ?_
              refine rT 16 (fun K hK => ?_)
              go_simp
              refine hK.out _ _ (fun _ => HK10.out _ mS) ?_
              clear hK K
              (try simp only [Act.put, pT])
              refine sF 17 (fun _ => HK10.out _ mS) ?_
              refine sF 18 (fun _ => HK10.out _ mS) ?_
              refine rT 19 (fun K hK => ?_)
              go_simp
              refine hK.out _ _ (fun _ => HK10.out _ mS) ?_
              clear hK K
              (try simp only [Act.put, pT])
              refine sF 20 (fun _ => HK10.out _ mS) ?_
              refine sF 21 (fun _ => HK10.out _ mS) ?_
              refine rT 22 (fun K hK => ?_)
              go_simp
              refine hK.out _ _ (fun h => (by simp at h)) ?_
              clear hK K
              (try simp only [Act.put, pT])
              refine rT 23 (fun K hK => ?_)
              go_simp
              refine hK.out _ _ (fun h => (by simp at h)) ?_
              clear hK K
              (try simp only [Act.put, pT])
              refine rT 24 (fun K hK => ?_)
              go_simp
              refine hK.out _ _ (fun h => (by simp at h)) ?_
              clear hK K
              (try simp only [Act.put, pT])
              refine rT 25 (fun K hK => ?_)
              go_simp
              refine hK.out _ _ (fun h => (by simp at h)) ?_
              clear hK K
              (try simp only [Act.put, pT])
              refine till_done (by kernel_rfl) ?_ _
              go_wp2_with fail
              first
                | exact ⟨⟨hh + 1, _, by omega, by go_num, HSTN, (HEND.out _ HM4.out).1, (HEND.out _ HM4.out).2⟩, by simp [intOf]; omega⟩
                | exact ⟨⟨hh + 1, _, by omega, by go_num, HSTN, (HEND.out _ HM4.out.drew).1, (HEND.out _ HM4.out.drew).2⟩, by simp [intOf]; omega⟩
            · have hh1 : hs = false := by simpa using hh0
              subst hh1
              clear hold hh0
              go_quiet (fail)
              generalize hw4 : World.drewN w3 _ = w4
              have hm4 : Mod nil w3 w4 := by rw [← hw4]; exact (Mod.refl _ _).drewN _
              have HM4 := Lib.hid hm4
              have hj4 := hm4.keep HB4.out
              have z1 := free_of hj4 1
              have z2 := free_of hj4 2
              have z3 := free_of hj4 3
              have z4 := free_of hj4 4
              have z6 := free_of hj4 6
              have y1 := cell_of hj4 1
              have y2 := cell_of hj4 2
              have y3 := cell_of hj4 3
              have y4 := cell_of hj4 4
              have y6 := cell_of hj4 6
              simp only [List.getElem?_toArray, List.getElem?_cons_zero, List.getElem?_cons_succ] at y1 y2 y3 y4 y6
              have HK10 : Hid (∀ W, Mod (· = jb) w4 W → (fun w' => w'.cell? ⟨fb, 1, none⟩ = some (.int .i64 (gen : Int)) ∧ w'.cell? ⟨fb, 3, none⟩ = some (.slice q nb c)) W) := Lib.hid (fun W mm => by
                have e := (mm.block fb (heap_lt (hm4.keep HB3.out)) (by have := HFJ.out; omega)).trans (hm4.keep HB3.out)
                exact ⟨cell_of e 1, cell_of e 3⟩)
              have HJF : Hid (jb < fb) := HFJ
              clear hw4 hm4 hj4 g2 g3 f1
              go_upto_region 10 with (fail)
              refine region_till (fun w' => w'.cell? ⟨fb, 1, none⟩ = some (.int .i64 (gen : Int)) ∧ w'.cell? ⟨fb, 3, none⟩ = some (.slice q nb c)) 22 (by kernel_rfl) ?_
              refine sF 0 (fun _ => HK10.out _ mS) ?_
              refine sF 1 (fun _ => HK10.out _ mS) ?_
              refine sF 2 (fun _ => HK10.out _ mS) ?_
              refine sF 3 (fun _ => HK10.out _ mS) ?_
              refine sF 4 (fun _ => HK10.out _ mS) ?_
              refine sF 5 (fun _ => HK10.out _ mS) ?_
              refine sF 6 (fun _ => HK10.out _ mS) ?_
              refine sT 7 (HK10.out _ mS) ?_
              refine sF 8 (fun _ => HK10.out _ mS) ?_
              refine sT 9 (HK10.out _ mS) ?_
              refine sF 10 (fun _ => HK10.out _ mS) ?_
              refine sF 11 (fun _ => HK10.out _ mS) ?_
              refine sF 12 (fun _ => HK10.out _ mS) ?_
              refine rT 13 (fun K hK => ?_)
              go_simp
              refine hK.out _ _ (fun _ => HK10.out _ mS) ?_
              clear hK K
              (try simp only [Act.put, pT])
              refine sF 14 (fun _ => HK10.out _ mS) ?_
              refine sF 15 (fun _ => HK10.out _ mS) ?_
              refine rT 16 (fun K hK => ?_)
              go_simp
              refine hK.out _ _ (fun _ => HK10.out _ mS) ?_
              clear hK K
              (try simp only [Act.put, pT])
              refine sF 17 (fun _ => HK10.out _ mS) ?_
              refine sF 18 (fun _ => HK10.out _ mS) ?_
              refine rT 19 (fun K hK => ?_)
              go_simp
              refine hK.out _ _ (fun _ => HK10.out _ mS) ?_
              clear hK K
              (try simp only [Act.put, pT])
              refine sF 20 (fun _ => HK10.out _ mS) ?_
              refine sF 21 (fun _ => HK10.out _ mS) ?_
              refine rT 22 (fun K hK => ?_)
              go_simp
              refine hK.out _ _ (fun h => (by simp at h)) ?_
              clear hK K
              (try simp only [Act.put, pT])
              refine rT 23 (fun K hK => ?_)
              go_simp
              refine hK.out _ _ (fun h => (by simp at h)) ?_
              clear hK K
              (try simp only [Act.put, pT])
              refine rT 24 (fun K hK => ?_)
              go_simp
              refine hK.out _ _ (fun h => (by simp at h)) ?_
              clear hK K
              (try simp only [Act.put, pT])
              refine rT 25 (fun K hK => ?_)
              go_simp
              refine hK.out _ _ (fun h => (by simp at h)) ?_
              clear hK K
              (try simp only [Act.put, pT])
              refine till_done (by kernel_rfl) ?_ _
              go_wp2_with fail
              first
                | exact ⟨⟨hh + 1, _, by omega, by go_num, HSTN, (HEND.out _ HM4.out).1, (HEND.out _ HM4.out).2⟩, by simp [intOf]; omega⟩
                | exact ⟨⟨hh + 1, _, by omega, by go_num, HSTN, (HEND.out _ HM4.out.drew).1, (HEND.out _ HM4.out.drew).2⟩, by simp [intOf]; omega⟩
    · obtain rfl : hh = 2 := by omega
      have hs2 : s = d.looks := by
        rcases HST.out with h | h | h
        · exact absurd h.1 (by decide)
        · exact absurd h.1 (by decide)
        · exact h.2
      subst hs2
      clear HST
      simp only [Int.cast_ofNat_Int]
      have HLK : Hid (∀ hf, hf ≤ 1 → (halfOf d hf).length = 64 * N) := Lib.hid (fun hf hh => by
        unfold halfOf
        rw [HNN.out]
        exact sectorsAt_length _ _ _ (fun i hi => H64.out _ (by rcases (show hf = 0 ∨ hf = 1 by omega) with rfl | rfl <;> (have := HNN.out; omega))))
      have hlim : d.looks.half ≤ 1 ∧ d.looks.at_ ≤ N ∧ d.looks.recs = [] := by
        have := d.looks_lim (fun hf hh => by rw [HNN.out]; exact HLK.out hf hh)
        rw [HNN.out] at this
        exact ⟨this.1, this.2.1, this.2.2.1⟩
      obtain ⟨hl1, hl2, hl3⟩ := hlim
      obtain ⟨hf, hhf⟩ : ∃ x, d.looks.half = x := ⟨_, rfl⟩
      obtain ⟨a0, ha0⟩ : ∃ x, d.looks.at_ = x := ⟨_, rfl⟩
      obtain ⟨GG, hGG⟩ : ∃ x, d.looks.gen = x := ⟨_, rfl⟩
      rw [hhf] at hl1
      rw [ha0] at hl2
      obtain ⟨TB, hTB⟩ : ∃ x, halfOf d hf = x := ⟨_, rfl⟩
      obtain ⟨R, hR⟩ : ∃ R, followsN TB GG (N - a0 + 1) a0 [] = R := ⟨_, rfl⟩
      have hNb : N ≤ 4096 := by have := HRM.out; have := HNN.out; omega
      have HTBL : Hid (TB.length = 64 * N) := Lib.hid (by rw [← hTB]; exact HLK.out hf hl1)
      have HFIN : Hid (d.looks.follows (halfOf d d.looks.half) = { d.looks with at_ := R.1, recs := R.2 }) := Lib.hid (by
        unfold JS.follows
        rw [show followsN (halfOf d d.looks.half) d.looks.gen ((halfOf d d.looks.half).length / 64 - d.looks.at_ + 1) d.looks.at_ d.looks.recs = R from by rw [hhf, hTB, hGG, ha0, hl3, show TB.length / 64 = N by rw [HTBL.out]; omega]; exact hR])
      have HJ0 : Hid (IsRJ (fun k => w.heap.size ≤ k) wr jb db { d.looks with at_ := a0, recs := [] }) := Lib.hid (by rw [← ha0, ← hl3]; exact HJ.out)
      have HRR0 := Lib.hid hR
      have HTB := Lib.hid hTB
      have HGG := Lib.hid hGG
      have HHF := Lib.hid hhf
      clear hR hTB hGG hhf ha0 hl3 HJ
      go_wp2_with fail
      rename_i hc1
      clear hc1
      go_loopg [] (N - a0 + 1) (fun f wx => ∃ (a : Nat) (rs : List (List UInt8)), a ≤ N ∧ rs.length ≤ a ∧ Hid (N - a + 1 ≤ f) ∧ Hid (followsN TB GG f a rs = R) ∧ Hid (IsRJ (fun k => w.heap.size ≤ k) wx jb db { d.looks with at_ := a, recs := rs }) ∧ Hid (Mod nil w wx))
      case atStart => exact ⟨a0, [], hl2, by simp, Lib.hid (Nat.le_refl _), HRR0, HJ0, HM⟩
      case round =>
        clear HM HJ0 HRR0
        obtain ⟨at_, rs, ha, hrs, HF, HRR0, HJR, HMR⟩ := hrel
        obtain ⟨gf, hgf⟩ : ∃ gf, gk = gf + 1 := ⟨gk - 1, by have := HF.out; omega⟩
        have HRR : Hid (followsN TB GG (gf + 1) at_ rs = R) := Lib.hid (by rw [← hgf]; exact HRR0.out)
        have HGF := Lib.hid hgf
        clear hgf HRR0
        obtain ⟨pp, cp, nr, pr, cr, h1, h2, h3⟩ := HJR.out.ex
        simp only at h1 h2 h3
        rw [HHF.out, HGG.out] at h1
        have hnr : rs.length = nr := h3.len
        obtain ⟨rn1, hrn1⟩ : ∃ x, rs.length + 1 = x := ⟨_, rfl⟩
        rw [hrn1] at h1
        have HRN := Lib.hid hrn1
        have HNR := Lib.hid hnr
        have hrnb : rn1 ≤ N + 1 ∧ nr ≤ N := by omega
        obtain ⟨TD, hTD⟩ : ∃ x, TB.drop (64 * at_) = x := ⟨_, rfl⟩
        have HTD := Lib.hid hTD
        have HTDL : Hid (TD.length ≤ 1000000) := Lib.hid (by rw [← hTD, List.length_drop, HTBL.out]; omega)
        have hSD : sectorsAt d (hf * N + at_) (N - at_) = TD := by
          rw [← hTD, ← HTB.out]
          unfold halfOf
          rw [HNN.out, sectorsAt_drop d (hf * N) at_ N ha (fun i hi => H64.out _ (by rcases (show hf = 0 ∨ hf = 1 by omega) with rfl | rfl <;> (have := HNN.out; omega)))]
        have hjl := heap_lt h1
        have c0 := cell_of h1 0
        have c1 := cell_of h1 1
        have c6 := cell_of h1 6
        simp only [List.getElem?_toArray, List.getElem?_cons_zero, List.getElem?_cons_succ] at c0 c1 c6
        have HTXT := Lib.hid (fun W (m : Mod nil wr W) => sixTextAt jb db hf at_ N B d W (cell_kept c0 m hjl (not_nil _)) (HD.out.mod (HMR.out.thenNil m) (fun _ _ _ f => f)) HNN.out hl1 ha HR64.out)
        rw [hSD] at HTXT
        have HK11 : Hid (∀ W, Mod nil wr W → (fun w' => w'.cell? ⟨jb, 1, none⟩ = some (.int .i64 (hf : Int)) ∧ w'.cell? ⟨jb, 6, none⟩ = some (.int .i64 (at_ : Int))) W) := Lib.hid (fun W mm => ⟨cell_kept c1 mm hjl (not_nil _), cell_kept c6 mm hjl (not_nil _)⟩)
        have HB := Lib.hid h1
        have HP := Lib.hid h2
        have HRS := Lib.hid h3
        clear h1 h2 h3 hTD hSD hrn1 hnr c0
        go_upto_region 11 with (fail)
        go_cut [8, 9, 10] from 86 (fun s8 s9 s10 wc => ∃ (fb kind gen seq : Nat) (pq : Option Addr) (lq cq n : Nat) (er : Int), s8 = .pointer (some ⟨fb, 0, none⟩) ∧ s9 = .int .i64 n ∧ s10 = .int .i64 er ∧ wr.heap.size ≤ fb ∧ wc.heap[fb]? = some (.cells #[.int .i64 (kind : Nat), .int .i64 (gen : Nat), .int .i64 (seq : Nat), .slice pq lq cq] 122 (0, 0)) ∧ GotR TD kind gen seq pq lq cq n er wr wc ∧ Mod nil wr wc)
        case first =>
          refine wp_region_held_drew (S := (fun w' => w'.cell? ⟨jb, 1, none⟩ = some (.int .i64 (hf : Int)) ∧ w'.cell? ⟨jb, 6, none⟩ = some (.int .i64 (at_ : Int)))) (by kernel_rfl) (HK11.out _ mD) (fun hHeld => ?_)
          refine sH 0 ?_
          refine sH 1 ?_
          refine sH 2 ?_
          refine sH 3 ?_
          refine sH 4 ?_
          refine sH 5 ?_
          refine sH 6 ?_
          refine sH 7 ?_
          refine sH 8 ?_
          refine wpAnyH_ready (rs := [9, 15]) (by kernel_rfl) (by simp) ?_
          refine AllReadyH.cons (i := 9) rfl (fun K hK => ?_) ?_
          · (try dsimp (config := { proj := false }) only [g0, g1, g2])
            go_simp
            refine (HTXT.out _ ?_).mono ?_
            · exact mD
            rintro e wt ⟨p1, n1, c1, rfl, hv1, hmt0⟩
            have hmt : Mod nil wr wt := (show Mod nil wr _ from mD).thenNil hmt0
            have hc1 : n1 ≤ c1 ∧ c1 ≤ maxLen ∧ TD.length = n1 := by
              obtain ⟨_, _, he1, hx1, hx2⟩ := vecCap hv1
              simp only [Value.slice.injEq] at he1
              obtain ⟨-, -, rfl⟩ := he1
              exact ⟨hx1, hx2, by have h := hv1.len; rw [bys_length, Nat.mul_one] at h; exact h⟩
            have htt : Mod nil wt wt := Mod.refl _ _
            have HGET := Lib.hid (fun W (m : Mod nil wt W) => sixGet1 _ p1 n1 c1 TD W (hv1.row.modNil m) hc1.1 hc1.2.1 (by have := HTDL.out; omega))
            clear hv1 hmt0 hc1
            refine hK.out _ _ (HK11.out _ mD) (fun hHeld => ?_)
            clear hK K
            (try simp only [Act.put, pT])
            refine wpAnyH_ready (rs := [10, 15]) (by kernel_rfl) (by simp) ?_
            refine AllReadyH.cons (i := 10) rfl (fun K hK => ?_) ?_
            · (try dsimp (config := { proj := false }) only [g0, g1, g2])
              go_simp
              refine (HGET.out _ ?_).mono ?_
              · exact mD
              rintro e wg ⟨kind, gen, seq, pq, lq, cq, n, er, rfl, hgot, hmg0⟩
              have hmg : Mod nil wr wg := (show Mod nil wr _ from mD).thenNil hmg0
              have hgg : Mod nil wg wg := Mod.refl _ _
              have HGOT0 := Lib.hid (gotNil (w0 := wr) hgot mD)
              clear hgot hmg0
              refine hK.out _ _ (HK11.out _ mD) (fun hHeld => ?_)
              clear hK K
              (try simp only [Act.put, pT])
              refine sH 11 ?_
              refine sH 12 ?_
              refine sH 13 ?_
              refine sH 14 ?_
              refine rH 15 (fun K hK => ?_)
              go_simp
              generalize hwa : World.alloc _ (Obj.cells #[.int .i64 0, .int .i64 0, .int .i64 0, .slice none 0 0] 122 (0, 0)) = wa
              have hma : Mod nil wr wa := by rw [← hwa]; (repeat (first | assumption | exact Mod.refl _ _ | refine Mod.drew ?_ | refine Mod.alloc ?_ _))
              have hfz : wa.heap[wg.heap.size]? = some (.cells #[.int .i64 0, .int .i64 0, .int .i64 0, .slice none 0 0] 122 (0, 0)) := by rw [← hwa]; exact heap_alloc_new _ _
              have HFZ : Hid (∀ V, Mod nil wa V → V.heap[wg.heap.size]? = some (.cells #[.int .i64 0, .int .i64 0, .int .i64 0, .slice none 0 0] 122 (0, 0))) := Lib.hid (fun V m => m.keep hfz)
              have hfle : wr.heap.size ≤ wg.heap.size := by first | exact Nat.le_refl _ | exact hmt.size | exact hmg.size
              have haa : Mod nil wa wa := Mod.refl _ _
              have hga : Mod nil wg wa := by rw [← hwa]; (repeat (first | assumption | exact Mod.refl _ _ | refine Mod.drew ?_ | refine Mod.alloc ?_ _))
              clear hfz hwa
              refine hK.out _ _ (HK11.out _ mD) (fun hHeld => ?_)
              clear hK K
              (try simp only [Act.put, pT])
              refine rH 16 (fun K hK => ?_)
              refine step_store_row6 rfl _ _ _ rfl (wg.heap.size) #[.int .i64 (kind : Nat), .int .i64 (gen : Nat), .int .i64 (seq : Nat), .slice pq lq cq] rfl rfl 122 _ (HFZ.out _ mD) info_frame rfl (by simp [Value.oneCell']) ?_
              have hbs := setRow_heap wa (wg.heap.size) _ #[.int .i64 (kind : Nat), .int .i64 (gen : Nat), .int .i64 (seq : Nat), .slice pq lq cq] _ _ (HFZ.out wa mD)
              have hms := (show Mod nil wr wa from mD).rowSet (wg.heap.size) #[.int .i64 (kind : Nat), .int .i64 (gen : Nat), .int .i64 (seq : Nat), .slice pq lq cq] (fun h => by have := hfle; omega)
              have hgs := hga.rowSet (wg.heap.size) #[.int .i64 (kind : Nat), .int .i64 (gen : Nat), .int .i64 (seq : Nat), .slice pq lq cq] (fun h => absurd h (Nat.lt_irrefl _))
              generalize World.setRow _ _ _ = ws at hbs hms hgs ⊢
              refine hK.out _ _ (HK11.out _ mD) (fun hHeld => ?_)
              clear hK K
              (try simp only [Act.put, pT])
              refine sH 17 ?_
              refine sH 18 ?_
              refine wpAnyH_done (by kernel_rfl) ?_ _
              go_wp2_with fail
              go_meet
              exact ⟨_, kind, gen, seq, pq, lq, cq, n, er, rfl, rfl, rfl, hfle, hbs, HGOT0.out _ hgs, hms⟩
            refine AllReadyH.cons (i := 15) rfl (fun K hK => ?_) AllReadyH.nil
            (try dsimp (config := { proj := false }) only [g0, g1, g2])
            go_simp
            generalize hwa : World.alloc _ (Obj.cells #[.int .i64 0, .int .i64 0, .int .i64 0, .slice none 0 0] 122 (0, 0)) = wa
            have hma : Mod nil wr wa := by rw [← hwa]; (repeat (first | assumption | exact Mod.refl _ _ | refine Mod.drew ?_ | refine Mod.alloc ?_ _))
            have hfz : wa.heap[wt.heap.size]? = some (.cells #[.int .i64 0, .int .i64 0, .int .i64 0, .slice none 0 0] 122 (0, 0)) := by rw [← hwa]; exact heap_alloc_new _ _
            have HFZ : Hid (∀ V, Mod nil wa V → V.heap[wt.heap.size]? = some (.cells #[.int .i64 0, .int .i64 0, .int .i64 0, .slice none 0 0] 122 (0, 0))) := Lib.hid (fun V m => m.keep hfz)
            have hfle : wr.heap.size ≤ wt.heap.size := by first | exact Nat.le_refl _ | exact hmt.size | exact hmg.size
            have haa : Mod nil wa wa := Mod.refl _ _
            have hta : Mod nil wt wa := by rw [← hwa]; (repeat (first | assumption | exact Mod.refl _ _ | refine Mod.drew ?_ | refine Mod.alloc ?_ _))
            clear hfz hwa
            refine hK.out _ _ (HK11.out _ mD) (fun hHeld => ?_)
            clear hK K
            (try simp only [Act.put, pT])
            refine rH 10 (fun K hK => ?_)
            go_simp
            refine (HGET.out _ ?_).mono ?_
            · exact mD
            rintro e wg ⟨kind, gen, seq, pq, lq, cq, n, er, rfl, hgot, hmg0⟩
            have hmg : Mod nil wr wg := (show Mod nil wr _ from mD).thenNil hmg0
            have hag : Mod nil wa wg := (show Mod nil wa _ from mD).thenNil hmg0
            have hgg : Mod nil wg wg := Mod.refl _ _
            have HGOT0 := Lib.hid (gotAt (w0 := wr) hgot mD (heap_lt (HFZ.out wa haa)) mD)
            clear hgot hmg0
            refine hK.out _ _ (HK11.out _ mD) (fun hHeld => ?_)
            clear hK K
            (try simp only [Act.put, pT])
            refine sH 11 ?_
            refine sH 12 ?_
            refine sH 13 ?_
            refine sH 14 ?_
            refine rH 16 (fun K hK => ?_)
            refine step_store_row6 rfl _ _ _ rfl (wt.heap.size) #[.int .i64 (kind : Nat), .int .i64 (gen : Nat), .int .i64 (seq : Nat), .slice pq lq cq] rfl rfl 122 _ (HFZ.out _ mD) info_frame rfl (by simp [Value.oneCell']) ?_
            have hbs := setRow_heap wg (wt.heap.size) _ #[.int .i64 (kind : Nat), .int .i64 (gen : Nat), .int .i64 (seq : Nat), .slice pq lq cq] _ _ (HFZ.out wg mD)
            have hms := (show Mod nil wr wg from mD).rowSet (wt.heap.size) #[.int .i64 (kind : Nat), .int .i64 (gen : Nat), .int .i64 (seq : Nat), .slice pq lq cq] (fun h => by have := hfle; omega)
            have hgs := (Mod.refl (· = wt.heap.size) wg).rowSet (wt.heap.size) #[.int .i64 (kind : Nat), .int .i64 (gen : Nat), .int .i64 (seq : Nat), .slice pq lq cq] (fun _ => rfl)
            generalize World.setRow _ _ _ = ws at hbs hms hgs ⊢
            refine hK.out _ _ (HK11.out _ mD) (fun hHeld => ?_)
            clear hK K
            (try simp only [Act.put, pT])
            refine sH 17 ?_
            refine sH 18 ?_
            refine wpAnyH_done (by kernel_rfl) ?_ _
            go_wp2_with fail
            go_meet
            exact ⟨_, kind, gen, seq, pq, lq, cq, n, er, rfl, rfl, rfl, hfle, hbs, HGOT0.out _ hgs, hms⟩
          refine AllReadyH.cons (i := 15) rfl (fun K hK => ?_) AllReadyH.nil
          (try dsimp (config := { proj := false }) only [g0, g1, g2])
          go_simp
          generalize hwa : World.alloc _ (Obj.cells #[.int .i64 0, .int .i64 0, .int .i64 0, .slice none 0 0] 122 (0, 0)) = wa
          have hma : Mod nil wr wa := by rw [← hwa]; (repeat (first | assumption | exact Mod.refl _ _ | refine Mod.drew ?_ | refine Mod.alloc ?_ _))
          have hfz : wa.heap[wr.heap.size]? = some (.cells #[.int .i64 0, .int .i64 0, .int .i64 0, .slice none 0 0] 122 (0, 0)) := by rw [← hwa]; exact heap_alloc_new _ _
          have HFZ : Hid (∀ V, Mod nil wa V → V.heap[wr.heap.size]? = some (.cells #[.int .i64 0, .int .i64 0, .int .i64 0, .slice none 0 0] 122 (0, 0))) := Lib.hid (fun V m => m.keep hfz)
          have hfle : wr.heap.size ≤ wr.heap.size := by first | exact Nat.le_refl _ | exact hmt.size | exact hmg.size
          have haa : Mod nil wa wa := Mod.refl _ _
          clear hfz hwa
          refine hK.out _ _ (HK11.out _ mD) (fun hHeld => ?_)
          clear hK K
          (try simp only [Act.put, pT])
          refine rH 9 (fun K hK => ?_)
          go_simp
          refine (HTXT.out _ ?_).mono ?_
          · exact mD
          rintro e wt ⟨p1, n1, c1, rfl, hv1, hmt0⟩
          have hmt : Mod nil wr wt := (show Mod nil wr _ from mD).thenNil hmt0
          have hat : Mod nil wa wt := (show Mod nil wa _ from mD).thenNil hmt0
          have hc1 : n1 ≤ c1 ∧ c1 ≤ maxLen ∧ TD.length = n1 := by
            obtain ⟨_, _, he1, hx1, hx2⟩ := vecCap hv1
            simp only [Value.slice.injEq] at he1
            obtain ⟨-, -, rfl⟩ := he1
            exact ⟨hx1, hx2, by have h := hv1.len; rw [bys_length, Nat.mul_one] at h; exact h⟩
          have htt : Mod nil wt wt := Mod.refl _ _
          have HGET := Lib.hid (fun W (m : Mod nil wt W) => sixGet1 _ p1 n1 c1 TD W (hv1.row.modNil m) hc1.1 hc1.2.1 (by have := HTDL.out; omega))
          clear hv1 hmt0 hc1
          refine hK.out _ _ (HK11.out _ mD) (fun hHeld => ?_)
          clear hK K
          (try simp only [Act.put, pT])
          refine rH 10 (fun K hK => ?_)
          go_simp
          refine (HGET.out _ ?_).mono ?_
          · exact mD
          rintro e wg ⟨kind, gen, seq, pq, lq, cq, n, er, rfl, hgot, hmg0⟩
          have hmg : Mod nil wr wg := (show Mod nil wr _ from mD).thenNil hmg0
          have hag : Mod nil wa wg := (show Mod nil wa _ from mD).thenNil hmg0
          have hgg : Mod nil wg wg := Mod.refl _ _
          have HGOT0 := Lib.hid (gotAt (w0 := wr) hgot mD (heap_lt (HFZ.out wa haa)) mD)
          clear hgot hmg0
          refine hK.out _ _ (HK11.out _ mD) (fun hHeld => ?_)
          clear hK K
          (try simp only [Act.put, pT])
          refine sH 11 ?_
          refine sH 12 ?_
          refine sH 13 ?_
          refine sH 14 ?_
          refine rH 16 (fun K hK => ?_)
          refine step_store_row6 rfl _ _ _ rfl (wr.heap.size) #[.int .i64 (kind : Nat), .int .i64 (gen : Nat), .int .i64 (seq : Nat), .slice pq lq cq] rfl rfl 122 _ (HFZ.out _ mD) info_frame rfl (by simp [Value.oneCell']) ?_
          have hbs := setRow_heap wg (wr.heap.size) _ #[.int .i64 (kind : Nat), .int .i64 (gen : Nat), .int .i64 (seq : Nat), .slice pq lq cq] _ _ (HFZ.out wg mD)
          have hms := (show Mod nil wr wg from mD).rowSet (wr.heap.size) #[.int .i64 (kind : Nat), .int .i64 (gen : Nat), .int .i64 (seq : Nat), .slice pq lq cq] (fun h => by have := hfle; omega)
          have hgs := (Mod.refl (· = wr.heap.size) wg).rowSet (wr.heap.size) #[.int .i64 (kind : Nat), .int .i64 (gen : Nat), .int .i64 (seq : Nat), .slice pq lq cq] (fun _ => rfl)
          generalize World.setRow _ _ _ = ws at hbs hms hgs ⊢
          refine hK.out _ _ (HK11.out _ mD) (fun hHeld => ?_)
          clear hK K
          (try simp only [Act.put, pT])
          refine sH 17 ?_
          refine sH 18 ?_
          refine wpAnyH_done (by kernel_rfl) ?_ _
          go_wp2_with fail
          go_meet
          exact ⟨_, kind, gen, seq, pq, lq, cq, n, er, rfl, rfl, rfl, hfle, hbs, HGOT0.out _ hgs, hms⟩
        case rest =>
          obtain ⟨fb, kind, gen, seq, pq, lq, cq, n, er, rfl, rfl, rfl, hF, hb, hgot, hm⟩ := hcut
          clear c1 c6 HTXT HK11
          have hjb := hm.keep HB.out
          have hjc := heap_lt hjb
          have hFj : ¬ jb = fb := by omega
          have r0 := cell_of hb 0
          have r1 := cell_of hb 1
          have r2 := cell_of hb 2
          have g2 := cell_of hjb 2
          have g7 := cell_of hjb 7
          simp only [List.getElem?_toArray, List.getElem?_cons_zero, List.getElem?_cons_succ] at r0 r1 r2 g2 g7
          have HJC : Hid (IsRJ (fun k => w.heap.size ≤ k) wc jb db { d.looks with at_ := at_, recs := rs }) := Lib.hid (HJR.out.modNil hm)
          have HMC : Hid (Mod nil w wc) := Lib.hid (HMR.out.thenNil hm)
          have HM := Lib.hid hm
          have HBJ := Lib.hid hjb
          have HBF := Lib.hid hb
          have HSTOP : Hid (followsN TB GG (gf + 1) at_ rs = (at_, rs) → ∀ W, Mod nil wc W → Post (.returned (.pointer (some ⟨jb, 0, none⟩))) W) := Lib.hid (fun e W mw => HPOST.out _ _ (by
            have hR2 : R = (at_, rs) := HRR.out.symm.trans e
            have hjW := HJC.out.modNil mw
            have hmW := HMC.out.thenNil mw
            refine ⟨jb, rfl, HJC.out.lo, ?_, hmW⟩
            rw [HFIN.out, hR2]
            exact ⟨fun k => w.heap.size ≤ k ∧ k < W.heap.size, fun k => B k ∧ k < w.heap.size, hjW.here, HD.out.here.mod hmW (fun _ _ _ f => f), fun k hk hB => by have := hB.2; have := hk.1; omega, fun k hk => by
              rcases hk with hk | hk
              · exact ⟨.inr hk.1, hk.2⟩
              · exact ⟨.inl (hF_.out k hk.1), by have := hk.2; have := hmW.size; omega⟩⟩))
          have HGOT := Lib.hid hgot
          clear hb hm hjb hgot
          by_cases her : er = 0
          · subst her
            obtain ⟨body, hsome, hn, rfl, hv⟩ : ∃ body, getF TD = some (kind, gen, seq, body) ∧ n = sectorsF body.length ∧ lq = body.length ∧ IsVec (fun k => wr.heap.size ≤ k) wc 5 1 (.slice pq lq cq) lq (bys body) := by
              rcases HGOT.out with ⟨_, h⟩ | ⟨body, h1, _, h2, h3, h4⟩
              · cases h
              · exact ⟨body, h1, h2, h3, h4⟩
            have HSOME : Hid (getF (TB.drop (64 * at_)) = some (kind, gen, seq, body)) := Lib.hid (by rw [HTD.out]; exact hsome)
            have HV := Lib.hid hv
            have HN := Lib.hid hn
            clear hsome hv HGOT hn
            have HSTOP2 : Hid (¬ (kind = 2 ∧ gen = GG ∧ seq = rs.length + 1) → ∀ W, Mod nil wc W → Post (.returned (.pointer (some ⟨jb, 0, none⟩))) W) := Lib.hid (fun hne => HSTOP.out (followsN_stop TB GG gf at_ rs kind gen seq body HSOME.out hne))
            by_cases hk : kind = 2
            · subst hk
              by_cases hg : gen = GG
              · subst hg
                by_cases hq : seq = rn1
                · subst hq
                  have q1 : ((seq : Int) != (seq : Int)) = false := by simp
                  have q2 : ((gen : Int) != (gen : Int)) = false := by simp
                  have q3 : (((2 : Nat) : Int) != 2) = false := rfl
                  have HGO : Hid (followsN TB gen gf (at_ + n) (rs ++ [body]) = R) := Lib.hid (by
                    rw [← HRR.out, followsN_go TB gen gf at_ rs 2 gen seq body HSOME.out ⟨rfl, rfl, HRN.out.symm⟩, HN.out])
                  have hfit : at_ + n ≤ N ∧ 1 ≤ n ∧ n ≤ 1000 := by
                    have h1 := getF_fits _ _ _ _ _ HSOME.out
                    rw [List.length_drop, HTBL.out, ← HN.out] at h1
                    omega
                  obtain ⟨hfit1, hn1, hn2⟩ := hfit
                  obtain ⟨nb, hnb⟩ : ∃ x, body.length = x := ⟨_, rfl⟩
                  rw [hnb] at HV HBF
                  have HNB := Lib.hid hnb
                  clear hnb
                  go_upto_region 12 with (fail)
                  go_quiet (fail)
                  generalize hw3 : World.drewN wc _ = w3
                  have hm3 : Mod nil wc w3 := by rw [← hw3]; exact (Mod.refl _ _).drewN _
                  have hb3 := hm3.keep HBJ.out
                  have hf3 := hm3.keep HBF.out
                  clear r0 r1 r2 g2 g7 q1 q2 q3 hw3
                  have hjl3 := heap_lt hb3
                  have hfl3 := heap_lt hf3
                  obtain ⟨v8, w8, hrun8, hv8, hm8, ho8⟩ := textsC_append (R := fun k => wr.heap.size ≤ k) (w := w3.drew) 85 ((((HRS.out.modNil HM.out).modNil hm3).modNil (Mod.refl nil w3).drew).mono (fun k hk h => h)) (((HV.out.row).modNil hm3).modNil (Mod.refl nil w3).drew) HV.out.capOk (fun k hk => ⟨⟨Nat.le_trans HMR.out.size hk, by have : wr.heap.size ≤ k := hk; omega⟩, fun ho => by have := (HRS.out.own ho).2; have : wr.heap.size ≤ k := hk; omega⟩) rfl (by omega)
                  (try rw [HNB.out] at hrun8)
                  rw [show w3.drew.alloc (.cells #[.slice pq nb cq] 40) = (w3.alloc (.cells #[.slice pq nb cq] 40)).drew from rfl, show w3.drew.heap.size = w3.heap.size from rfl] at hrun8
                  have hm8' : Mod (fun k => (Value.slice pr nr cr).ownBlock = some k) w3 w8 := (Mod.refl nil w3).drew.ofNil.trans hm8 (fun _ _ h => h)
                  obtain ⟨p8, c8, rfl⟩ := hv8.form
                  have HK14 : Hid (∀ W, Mod (fun k => (Value.slice pr nr cr).ownBlock = some k) w3 W → (fun w' => w'.cell? ⟨jb, 5, none⟩ = some (.slice pr nr cr) ∧ w'.cell? ⟨fb, 3, none⟩ = some (.slice pq nb cq)) W) := Lib.hid (fun W mm => ⟨cell_kept (cell_of hb3 5) mm hjl3 (fun ho => (HRS.out.own ho).1.2 rfl), cell_kept (cell_of hf3 3) mm hfl3 (fun ho => by have := (HRS.out.own ho).2; omega)⟩)
                  have hb8 := (hm8'.block jb hjl3 (fun ho => (HRS.out.own ho).1.2 rfl)).trans hb3
                  have z5 := free_of hb8 5
                  have x5 := cell_of hb8 5
                  have y5 := (HK14.out w3 (Mod.refl _ _)).1
                  have y3 := (HK14.out w3 (Mod.refl _ _)).2
                  simp only [List.getElem?_toArray, List.getElem?_cons_zero, List.getElem?_cons_succ] at x5
                  have HV8 := Lib.hid hv8
                  have HO8 := Lib.hid ho8
                  have HM8 := Lib.hid hm8'
                  have HB8 := Lib.hid hb8
                  have HM3 := Lib.hid hm3
                  clear hv8 hm8 hb8 ho8 hm3 hb3 hf3 HSTOP HSTOP2
                  go_wp2_with fail
                  go_upto_region 14 with (fail)
                  refine region_till (fun w' => w'.cell? ⟨jb, 5, none⟩ = some (.slice pr nr cr) ∧ w'.cell? ⟨fb, 3, none⟩ = some (.slice pq nb cq)) 11 (by kernel_rfl) ?_
                  refine sF 0 (fun _ => HK14.out _ mD) ?_
                  refine sF 1 (fun _ => HK14.out _ mD) ?_
                  refine sF 2 (fun _ => HK14.out _ mD) ?_
                  refine sF 3 (fun _ => HK14.out _ mD) ?_
                  refine sT 4 (HK14.out _ mD) ?_
                  refine sF 5 (fun _ => HK14.out _ mD) ?_
                  refine sT 6 (HK14.out _ mD) ?_
                  refine rT 7 (fun K hK => ?_)
                  go_simp
                  refine hK.out _ _ (fun _ => HK14.out _ mD) ?_
                  clear hK K
                  (try simp only [Act.put, pT])
                  refine rT 8 (fun K hK => ?_)
                  refine step_append_run rfl _ _ _ _ rfl rfl rfl hrun8 ?_
                  refine hK.out _ _ (fun _ => HK14.out _ mD) ?_
                  clear hK K
                  (try simp only [Act.put, pT])
                  refine sF 9 (fun _ => HK14.out _ mD) ?_
                  refine sF 10 (fun _ => HK14.out _ mD) ?_
                  refine rT 11 (fun K hK => ?_)
                  go_simp
                  refine hK.out _ _ (fun h => (by simp at h)) ?_
                  clear hK K
                  (try simp only [Act.put, pT])
                  refine till_done (by kernel_rfl) ?_ _
                  have hb7 := heap_setCell_same HB8.out (.slice p8 (nr + 1) c8) (off := 5)
                  simp only [List.setIfInBounds_toArray, List.set_cons_succ, List.set_cons_zero] at hb7
                  have hm7 : Mod (· = jb) w8 (w8.setCell ⟨jb, 5, none⟩ (.slice p8 (nr + 1) c8)) := (Mod.refl _ _).setCell _ _ (fun _ => rfl)
                  generalize hw7 : World.setCell w8 _ _ = w7 at *
                  have HB7 := Lib.hid hb7
                  have HM7 := Lib.hid hm7
                  have HK15 : Hid (∀ W, Mod nil w7 W → (fun w' => w'.cell? ⟨jb, 6, none⟩ = some (.int .i64 (at_ : Int)) ∧ w'.cell? ⟨jb, 7, none⟩ = some (.int .i64 (seq : Int))) W) := Lib.hid (fun W mm => ⟨cell_of (mm.keep hb7) 6, cell_of (mm.keep hb7) 7⟩)
                  have y6 := (HK15.out w7 (Mod.refl _ _)).1
                  have y7 := (HK15.out w7 (Mod.refl _ _)).2
                  have u6 := free_of hb7 6
                  have u7 := free_of hb7 7
                  obtain ⟨A2, hA2⟩ : ∃ x, at_ + n = x := ⟨_, rfl⟩
                  obtain ⟨R2, hR2⟩ : ∃ x, seq + 1 = x := ⟨_, rfl⟩
                  have g1 : (at_ : Int) + (n : Int) = (A2 : Int) := by omega
                  have g2 : (seq : Int) + 1 = (R2 : Int) := by omega
                  have g3 : IntKind.i64.wrap (A2 : Int) = (A2 : Int) := by rw [IntKind.wrap_i64]; omega
                  have g4 : IntKind.i64.wrap (R2 : Int) = (R2 : Int) := by rw [IntKind.wrap_i64]; omega
                  have g5 : IntKind.i64.wrap (n : Int) = (n : Int) := by rw [IntKind.wrap_i64]; omega
                  have HA2 := Lib.hid hA2
                  have HR2 := Lib.hid hR2
                  clear hb7 hm7 hw7 hA2 hR2 hm8' x5 z5 y5 y3 hrun8
                  go_wp2_with fail
                  go_upto_region 15 with (fail)
                  refine region_till (fun w' => w'.cell? ⟨jb, 6, none⟩ = some (.int .i64 (at_ : Int)) ∧ w'.cell? ⟨jb, 7, none⟩ = some (.int .i64 (seq : Int))) 15 (by kernel_rfl) ?_
                  refine sF 0 (fun _ => HK15.out _ mD) ?_
                  refine sF 1 (fun _ => HK15.out _ mD) ?_
                  refine sF 2 (fun _ => HK15.out _ mD) ?_
                  refine sF 3 (fun _ => HK15.out _ mD) ?_
                  refine sF 4 (fun _ => HK15.out _ mD) ?_
                  refine sT 5 (HK15.out _ mD) ?_
                  refine sF 6 (fun _ => HK15.out _ mD) ?_
                  refine sF 7 (fun _ => HK15.out _ mD) ?_
                  refine sF 8 (fun _ => HK15.out _ mD) ?_
                  refine sF 9 (fun _ => HK15.out _ mD) ?_
                  refine sF 10 (fun _ => HK15.out _ mD) ?_
                  refine sT 11 (HK15.out _ mD) ?_
                  refine sF 12 (fun _ => HK15.out _ mD) ?_
                  refine sF 13 (fun _ => HK15.out _ mD) ?_
                  refine sF 14 (fun _ => HK15.out _ mD) ?_
                  refine rT 15 (fun K hK => ?_)
                  go_simp
                  refine hK.out _ _ (fun h => (by simp at h)) ?_
                  clear hK K
                  (try simp only [Act.put, pT])
                  refine rT 16 (fun K hK => ?_)
                  go_simp
                  refine hK.out _ _ (fun h => (by simp at h)) ?_
                  clear hK K
                  (try simp only [Act.put, pT])
                  refine rT 17 (fun K hK => ?_)
                  go_simp
                  refine hK.out _ _ (fun h => (by simp at h)) ?_
                  clear hK K
                  (try simp only [Act.put, pT])
                  refine rT 18 (fun K hK => ?_)
                  go_simp
                  refine hK.out _ _ (fun h => (by simp at h)) ?_
                  clear hK K
                  (try simp only [Act.put, pT])
                  refine till_done (by kernel_rfl) ?_ _
                  have HFIN2 : Hid (∀ V, Mod nil w7 V → Hid (IsRJ (fun k => w.heap.size ≤ k) ((V.setCell ⟨jb, 6, none⟩ (.int .i64 A2)).setCell ⟨jb, 7, none⟩ (.int .i64 R2)) jb db { d.looks with at_ := A2, recs := rs ++ [body] }) ∧ Hid (Mod nil w ((V.setCell ⟨jb, 6, none⟩ (.int .i64 A2)).setCell ⟨jb, 7, none⟩ (.int .i64 R2)))) := Lib.hid (fun V mm => by
                    have q1 := heap_setCell_same (mm.keep HB7.out) (.int .i64 A2) (off := 6)
                    have q2 := heap_setCell_same q1 (.int .i64 R2) (off := 7)
                    simp only [List.setIfInBounds_toArray, List.set_cons_succ, List.set_cons_zero] at q2
                    have ms : Mod (· = jb) V ((V.setCell ⟨jb, 6, none⟩ (.int .i64 A2)).setCell ⟨jb, 7, none⟩ (.int .i64 R2)) := ((Mod.refl (· = jb) V).setCell _ _ (fun _ => rfl)).setCell _ _ (fun _ => rfl)
                    generalize World.setCell (World.setCell V _ _) _ _ = W at *
                    have h78 : Mod (· = jb) w8 W := (HM7.out.thenNil mm).trans ms (fun _ _ h => h)
                    have hmr : Mod (fun k => (fun k => (Value.slice pr nr cr).ownBlock = some k) k ∨ k = jb) wr W := (((HM.out.thenNil HM3.out).ofNil).trans (HM8.out.mono (fun _ _ h => .inl h)) (fun _ _ h => h)).trans h78 (fun _ _ h => .inr h)
                    have hown : ∀ k, (fun k => (Value.slice pr nr cr).ownBlock = some k) k → (w.heap.size ≤ k ∧ k ≠ jb) ∧ k < wr.heap.size := fun k ho => ⟨(HRS.out.own ho).1, (HRS.out.own ho).2⟩
                    refine ⟨Lib.hid ⟨HJR.out.lo, pp, cp, nr + 1, p8, c8, ?_, ?_, ?_⟩, Lib.hid (HMR.out.new hmr (fun k h => by rcases h with h | h; exact (hown k h).1.1; rw [h]; exact HJR.out.lo))⟩
                    · simp only
                      rw [q2, HHF.out, HGG.out, List.length_append, HNR.out, show nr + [body].length + 1 = R2 from by have := HR2.out; have := HRN.out; have := HNR.out; simp only [List.length_cons, List.length_nil]; omega]
                    · exact (HP.out.here.mod hmr (fun k hk h ho => by
                        rcases ho with ho | ho
                        · exact h.1.2 ho
                        · exact h.1.1.2 ho)).mono (fun k _ h => ⟨⟨h.1.1.1, h.1.1.2⟩, fun ho => by
                        rcases HO8.out k ho with h' | h'
                        · exact h.1.2 h'
                        · have h2 := h.2; have := HM.out.size; have := HM3.out.size; have h3 : w3.heap.size ≤ k := h'; omega⟩)
                    · exact (HV8.out.mono (T := fun k => w.heap.size ≤ k ∧ k ≠ jb) (fun k _ h => by
                        rcases h with h | h
                        · exact h
                        · have h3 : w3.heap.size ≤ k := h
                          exact ⟨by have := HMR.out.size; have := HM.out.size; have := HM3.out.size; omega, by have := HM.out.size; have := HM3.out.size; omega⟩)).mod h78 (fun k _ h e => h.2 e))
                  clear y6 y7 u6 u7 g1 g2 g3 g4 g5
                  go_wp2_with fail
                  go_roundg gf
                  case measure => have := HGF.out; omega
                  case rel =>
                    first
                      | exact ⟨A2, rs ++ [body], by have := HA2.out; omega, by rw [List.length_append]; have := HA2.out; simp only [List.length_cons, List.length_nil]; omega, Lib.hid (by have := HGF.out; have := HF.out; have := HA2.out; omega), Lib.hid (by rw [← HA2.out]; exact HGO.out), (HFIN2.out _ (Mod.refl _ _)).1, (HFIN2.out _ (Mod.refl _ _)).2⟩
                      | exact ⟨A2, rs ++ [body], by have := HA2.out; omega, by rw [List.length_append]; have := HA2.out; simp only [List.length_cons, List.length_nil]; omega, Lib.hid (by have := HGF.out; have := HF.out; have := HA2.out; omega), Lib.hid (by rw [← HA2.out]; exact HGO.out), (HFIN2.out _ (Mod.refl _ _).drew).1, (HFIN2.out _ (Mod.refl _ _).drew).2⟩
                · have q1 : ((seq : Int) != (rn1 : Int)) = true := by simp; omega
                  have q2 : ((gen : Int) != (gen : Int)) = false := by simp
                  have q3 : (((2 : Nat) : Int) != 2) = false := rfl
                  have HE := Lib.hid (HSTOP2.out (fun h => hq (h.2.2.trans HRN.out)))
                  clear hq
                  go_upto_region 12 with (fail)
                  go_quiet (fail)
                  go_wp2_with fail
                  exact HE.out _ ((Mod.refl _ _).drewN _)
              · have q2 : ((gen : Int) != (GG : Int)) = true := by simp; omega
                have q3 : (((2 : Nat) : Int) != 2) = false := rfl
                have HE := Lib.hid (HSTOP2.out (fun h => hg h.2.1))
                clear hg
                go_upto_region 12 with (fail)
                go_quiet (fail)
                go_wp2_with fail
                exact HE.out _ ((Mod.refl _ _).drewN _)
            · have q3 : ((kind : Int) != 2) = true := by simp; omega
              have HE := Lib.hid (HSTOP2.out (fun h => hk h.1))
              clear hk
              go_upto_region 12 with (fail)
              go_quiet (fail)
              go_wp2_with fail
              exact HE.out _ ((Mod.refl _ _).drewN _)
          · have hnone : getF (TB.drop (64 * at_)) = none := by
              rw [HTD.out]
              rcases HGOT.out with ⟨h, _⟩ | ⟨body, _, h, _⟩
              · exact h
              · exact absurd h her
            have HE := Lib.hid (HSTOP.out (followsN_none TB GG gf at_ rs hnone))
            have her2 : er = 2 := by
              rcases HGOT.out with ⟨_, h⟩ | ⟨body, _, h, _⟩
              · exact h
              · exact absurd h her
            subst her2
            clear hnone her HGOT
            go_upto_region 12 with (fail)
            go_quiet (fail)
            go_wp2_with fail
            exact HE.out _ ((Mod.refl _ _).drewN _)
end Go.Proofs.YtdfahddpkkeldaaGreat

/- A journal whose disk makes a step of its own; cflref6.Open whatever the disk. -/
namespace Go.Proofs.YtdfahddpkkeldaaGreat
open Go.RowKit
variable {G : Nat → Prop} {w : World} {jb tb db bl bm xb yb : Nat} {s1 s2 : JS} {D D1 D2 : DS}
theorem isDisk_half {w : World} {db bl bm : Nat} {C : Nat → Prop} {d : DS} (h : IsDisk w db bl bm C d) (hd : d.down = false) (hf : Nat) (hh : hf ≤ 1) : (halfOf d hf).length = 64 * (d.lasts.length / 2) := by
 unfold halfOf
 exact sectorsAt_length _ _ _ (fun i hi => read_64 w db bl bm C d h _ hd (by rcases (show hf = 0 ∨ hf = 1 by omega) with rfl | rfl <;> omega))
theorem disk_read64 {w : World} {db bl bm : Nat} {C : Nat → Prop} {D : DS} (q2 : IsDisk w db bl bm C D) (i : Int) : (D.read i).1.length ≤ 64 := by
 by_cases hs : D.sector i = 0
 ·obtain ⟨hd, hi0, hi1⟩ := DS.sector_ok hs
  obtain ⟨k, rfl⟩ := Int.eq_ofNat_of_zero_le hi0
  rw [read_64 w db bl bm C D q2 k hd (by omega)]
  exact Nat.le_refl _
 ·unfold DS.read; rw [if_pos hs]; simp
theorem sixOpen (F : Nat → Prop) (B : Nat → Prop) (db : Nat) (d : DS) (w : World) (h : IsRefIn w B db d) (hF : ∀ k, B k → F k) (hr64 : ∀ i, (d.read i).1.length ≤ 64) (h64 : d.down = false → ∀ i : Nat, i < d.lasts.length → (d.read (i : Int)).1.length = 64) :
  Calls Tryz.prog 33 #[.pointer (some ⟨db, 0, none⟩)] w fun e w' => ∃ jb, e = .returned (.pointer (some ⟨jb, 0, none⟩)) ∧ w.heap.size ≤ jb ∧ IsRJD (fun k => F k ∨ w.heap.size ≤ k) w' jb db d.opens d ∧ Mod nil w w' := by
 cases hd : d.down with
 | true => exact sixOpenDown F B db d w h hF hd
 | false => exact sixOpenUp F B db d w h hF hd hr64 (h64 hd)
theorem IsJD.onDisk {F T : Nat → Prop} {w w' : World} {C C' : Nat → Prop} {S : Nat → Prop} {s : JS} {d' : DS} (ht : IsTab w tb) (j1 : IsJ S w jb tb db s) (j3 : ∀ k, S k → ¬ foot db bl bm C k) (j4 : ∀ k, (S k ∨ foot db bl bm C k) → F k ∧ k ≠ tb ∧ k < w.heap.size)
  (hd' : IsDisk w' db bl bm C' d') (hC : ∀ k, C' k → C k ∨ w.heap.size ≤ k) (m : Mod T w w') (hT : ∀ k, T k → k = db ∨ k = bl ∨ k = bm) : IsJD (fun k => F k ∨ w.heap.size ≤ k) w' jb tb db bl bm s d' := by
 have hs := m.size
 have hfo : ∀ k, T k → foot db bl bm C k := fun k hk => by rcases hT k hk with h | h | h; exact .inl h; exact .inr (.inl h); exact .inr (.inr (.inl h))
 have hd'' := hd'.here
 have htl := ht.lt
 refine ⟨ht.mod m (fun e => (j4 tb (.inr (hfo tb e))).2.1 rfl), S, fun k => C' k ∧ k < w'.heap.size, j1.mod m (fun k _ hk e => j3 k hk (hfo k e)), hd'', fun k hk hf => ?_, fun k hk => ?_⟩
 ·have hkw := (j4 k (.inl hk)).2.2
  rcases hf with h | h | h | h
  ·exact j3 k hk (.inl h)
  ·exact j3 k hk (.inr (.inl h))
  ·exact j3 k hk (.inr (.inr (.inl h)))
  ·rcases hC k h.1 with h' | h'
   ·exact j3 k hk (.inr (.inr (.inr h')))
   ·omega
 ·have go : ∀ k, (S k ∨ foot db bl bm C k) → (F k ∨ w.heap.size ≤ k) ∧ k ≠ tb ∧ k < w'.heap.size := fun k h => ⟨.inl (j4 k h).1, (j4 k h).2.1, Nat.lt_of_lt_of_le (j4 k h).2.2 hs⟩
  rcases hk with h | h | h | h | h
  ·exact go k (.inl h)
  ·exact go k (.inr (.inl h))
  ·exact go k (.inr (.inr (.inl h)))
  ·exact go k (.inr (.inr (.inr (.inl h))))
  ·rcases hC k h.1 with h' | h'
   ·exact go k (.inr (.inr (.inr (.inr h'))))
   ·exact ⟨.inr h', by omega, h.2⟩
theorem IsRJD.onDisk {R T : Nat → Prop} {w w' : World} {B B' S : Nat → Prop} {s : JS} {d' : DS} (r1 : IsRJ S w xb yb s) (r3 : ∀ k, S k → ¬ B k) (r4 : ∀ k, S k ∨ B k → R k ∧ k < w.heap.size)
  (hd' : IsRefIn w' B' yb d') (hB : ∀ k, B' k → B k ∨ w.heap.size ≤ k) (m : Mod T w w') (hT : ∀ k, T k → B k) : IsRJD (fun k => R k ∨ w.heap.size ≤ k) w' xb yb s d' := by
 have hs := m.size
 refine ⟨S, fun k => B' k ∧ k < w'.heap.size, r1.mod m (fun k _ hk e => r3 k hk (hT k e)), hd'.here, fun k hk hb => ?_, fun k hk => ?_⟩
 ·rcases hB k hb.1 with h | h
  ·exact r3 k hk h
  ·have := (r4 k (.inl hk)).2; omega
 ·rcases hk with h | h
  ·exact ⟨.inl (r4 k (.inl h)).1, Nat.lt_of_lt_of_le (r4 k (.inl h)).2 hs⟩
  ·exact ⟨(hB k h.1).imp (fun h => (r4 k (.inr h)).1) id, h.2⟩
end Go.Proofs.YtdfahddpkkeldaaGreat

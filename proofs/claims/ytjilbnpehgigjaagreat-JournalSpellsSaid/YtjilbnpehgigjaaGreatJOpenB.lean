/- Package journal: Open. -/
import Derived.Test.YtjilbnpehgigjaaGreatJPlainC
namespace Go.Proofs.YtjilbnpehgigjaaGreat
open Go.RowKit
theorem IsJ.fresh {w : World} {jb tb db : Nat} {down : Bool} (h : w.heap[jb]? = some (.cells #[.pointer (some ⟨tb, 0, none⟩), .pointer (some ⟨db, 0, none⟩), .bool down, .int .i64 0, .int .i64 0, .bool false, .slice none 0 0, .slice none 0 0, .int .i64 0] 84 (0, 0))) : IsJ (· = jb) w jb tb db ⟨down, false, 0, 0, 0, [], []⟩ :=
  ⟨rfl, none, 0, none, 0, h, (IsVec.nil _ _ 5 1).row, IsTexts.nil _ _⟩
def looksTo (d : DS) : Nat → JS
  | 0 => JS.fresh d
  | i + 1 => (looksTo d i).takes i (halfOf d i)
set_option maxRecDepth 100000 in
set_option maxHeartbeats 4000000 in
theorem jOpen (F : Nat → Prop) (tb db bl bm : Nat) (d : DS) (w : World) (h : IsDT F w tb db bl bm d) :
    Calls Tryz.prog 8 #[.pointer (some ⟨tb, 0, none⟩), .pointer (some ⟨db, 0, none⟩)] w fun e w' => ∃ jb, e = .returned (.pointer (some ⟨jb, 0, none⟩)) ∧ w.heap.size ≤ jb ∧ IsJD (fun k => F k ∨ w.heap.size ≤ k) w' jb tb db bl bm d.opens d ∧ Mod (· = tb) w w' := by
  refine (?_ : ∀ Post : Ending → World → Prop, Hid (∀ e w', (∃ jb, e = .returned (.pointer (some ⟨jb, 0, none⟩)) ∧ w.heap.size ≤ jb ∧ IsJD (fun k => F k ∨ w.heap.size ≤ k) w' jb tb db bl bm d.opens d ∧ Mod (· = tb) w w') → Post e w') → Calls Tryz.prog 8 #[.pointer (some ⟨tb, 0, none⟩), .pointer (some ⟨db, 0, none⟩)] w Post) _ (Lib.hid (fun _ _ h => h))
  intro Post HPOST
  obtain ⟨ht, C, hd, h4⟩ := h
  have htl := ht.lt
  have HDN : Hid (Calls Tryz.prog 27 #[.pointer (some ⟨db, 0, none⟩)] w fun e w' => e = .returned (.bool d.down) ∧ w = w') := Lib.hid (diskDown db bl bm C d w hd)
  have HEND : Hid (∀ S jb W, IsJ S W jb tb db d.opens → (∀ k, S k → w.heap.size ≤ k) → IsTab W tb → Mod (· = tb) w W → w.heap.size ≤ jb → Post (.returned (.pointer (some ⟨jb, 0, none⟩))) W) := Lib.hid (fun S jb W hj hS ht hm hjb => HPOST.out _ _ ⟨jb, rfl, hjb, IsJD.pack (S0 := fun _ => False) (C0 := C) (w0 := w) w.heap.size hj (hd.mod hm (fun k _ h e => (h4 k h).2.1 e)) ht (Nat.le_refl _) (fun _ h => h.elim) (fun k h => h4 k (h.elim False.elim id)) htl hm.size (fun k _ h => .inr (hS k h)) (fun k _ h => .inl h), hm⟩)
  obtain ⟨N, hN⟩ : ∃ N, d.lasts.length / 2 = N := ⟨_, rfl⟩
  have hNb : N ≤ 4096 := by have := hd.room; omega
  have HT := Lib.hid ht
  have HD := Lib.hid hd
  have hdbl : db < w.heap.size := (h4 db (.inl rfl)).2.2
  clear hd h4 ht
  obtain ⟨jb, hjb⟩ : ∃ jb, w.heap.size = jb := ⟨_, rfl⟩
  have HJB := Lib.hid hjb
  cases hdd : d.down with
  | true =>
    have ho : d.opens = JS.fresh d := if_pos hdd
    rw [hdd] at HDN
    go_enter Tryz.func8, Tryz.ntmps8
    go_wp2_with fail
    refine HDN.out.mono ?_
    rintro e w' ⟨rfl, rfl⟩
    go_upto_region 2 with (fail)
    generalize hw1 : World.alloc w _ = w1
    have hm1 : Mod nil w w1 := by rw [← hw1]; exact (Mod.refl _ _).alloc _
    have hb1 : w1.heap[jb]? = some (.cells #[.pointer (some ⟨tb, 0, none⟩), .pointer (some ⟨db, 0, none⟩), .bool true, .int .i64 0, .int .i64 0, .bool false, .slice none 0 0, .slice none 0 0, .int .i64 0] 84 (0, 0)) := by rw [← hw1, ← hjb]; exact heap_alloc_new _ _
    have c2 := cell_of hb1 2
    simp only [List.getElem?_toArray, List.getElem?_cons_zero, List.getElem?_cons_succ] at c2
    have HE := Lib.hid (HEND.out (· = jb) jb w1 (by rw [ho]; unfold JS.fresh; rw [hdd]; exact IsJ.fresh hb1) (fun k e => by rw [e, hjb]; exact Nat.le_refl _) (HT.out.mod hm1 (not_nil _)) hm1.ofNil (by rw [hjb]; exact Nat.le_refl _))
    clear hw1 hm1 hb1 hjb ho hdd
    go_wp2_with fail
    exact HE.out
  | false =>
    have ho : d.opens = d.looks.follows (halfOf d d.looks.half) := if_neg (by rw [hdd]; decide)
    have HDN' := HDN
    rw [hdd] at HDN
    go_enter Tryz.func8, Tryz.ntmps8
    go_wp2_with fail
    refine HDN.out.mono ?_
    rintro e w' ⟨rfl, rfl⟩
    go_upto_region 2 with (fail)
    generalize hw1 : World.alloc w _ = w1
    have hm1 : Mod nil w w1 := by rw [← hw1]; exact (Mod.refl _ _).alloc _
    have hb1 : w1.heap[jb]? = some (.cells #[.pointer (some ⟨tb, 0, none⟩), .pointer (some ⟨db, 0, none⟩), .bool false, .int .i64 0, .int .i64 0, .bool false, .slice none 0 0, .slice none 0 0, .int .i64 0] 84 (0, 0)) := by rw [← hw1, ← hjb]; exact heap_alloc_new _ _
    have c2 := cell_of hb1 2
    have c1 := cell_of hb1 1
    simp only [List.getElem?_toArray, List.getElem?_cons_zero, List.getElem?_cons_succ] at c2 c1
    have HFR : Hid (IsJ (· = jb) w1 jb tb db (JS.fresh d)) := Lib.hid (by unfold JS.fresh; rw [hdd]; exact IsJ.fresh hb1)
    have HM1 := Lib.hid hm1
    have HRD : Hid (∀ (hf : Nat) (W : World), hf ≤ 1 → Mod nil w1 W → Calls Tryz.prog 31 #[.pointer (some ⟨jb, 0, none⟩), .int .i64 hf] W fun e w' => ∃ p c, e = .returned (.slice p (64 * N) c) ∧ 64 * N ≤ c ∧ c ≤ maxLen ∧ IsRow (fun k => W.heap.size ≤ k) w' (.slice p (64 * N) c) (bys (halfOf d hf)) ∧ Mod nil W w') := Lib.hid (fun hf W hh hm => by
      refine (jRead jb db bl bm hf C d W (cell_kept c1 hm (World.block_lt_of_cell? _ _ c1) (not_nil _)) (HD.out.modNil (hm1.thenNil hm)) hh hdd).mono ?_
      rintro e w' ⟨v, rfl, hv, hm'⟩
      obtain ⟨p, c, rfl, h1, h2⟩ := vecCap hv
      have h := hv.row
      have e : sectorsAt d (hf * (d.lasts.length / 2)) (d.lasts.length / 2) = halfOf d hf := rfl
      rw [e] at h
      rw [hN] at h h1 ⊢
      exact ⟨p, c, rfl, h1, h2, h, hm'⟩)
    have HLK : Hid (∀ hf, hf ≤ 1 → (halfOf d hf).length = 64 * N) := Lib.hid (fun hf hh => by
      unfold halfOf
      rw [hN]
      exact sectorsAt_length _ _ _ (fun i hi => read_64 w db bl bm C d HD.out _ hdd (by rcases (show hf = 0 ∨ hf = 1 by omega) with rfl | rfl <;> omega)))
    have HLIM : Hid (d.looks.half ≤ 1 ∧ d.looks.at_ ≤ N ∧ d.looks.recs = []) := Lib.hid (by
      have := d.looks_lim (fun hf hh => by rw [hN]; exact HLK.out hf hh)
      rw [hN] at this
      exact ⟨this.1, this.2.1, this.2.2.1⟩)
    clear hw1 hm1 hb1 c1 hdd
    go_wp2_with fail
    have hz : (0 : Int) = ((0 : Nat) : Int) := rfl
    refine (HRD.out 0 w1 (by omega) (Mod.refl _ _)).mono ?_
    rintro e w2 ⟨p0, c0, rfl, hc0, hc0m, hr0, hm2⟩
    clear hz
    have HM2 := Lib.hid hm2
    have HR0 := Lib.hid hr0
    clear hm2 hr0
    go_wp2_with fail
    refine (HRD.out 1 w2 (by omega) HM2.out).mono ?_
    rintro e w3 ⟨p1, c1, rfl, hc1, hc1m, hr1, hm3⟩
    have HM3 := Lib.hid hm3
    have HR1 := Lib.hid hr1
    clear hm3 hr1
    go_upto_region 5 with (fail)
    obtain ⟨hb, hhb⟩ : ∃ hb, w3.heap.size = hb := ⟨_, rfl⟩
    (try rw [hhb])
    generalize hw4 : World.alloc w3 _ = w4
    have hm4 : Mod nil w3 w4 := by rw [← hw4]; exact (Mod.refl _ _).alloc _
    have hb4 : w4.heap[hb]? = some (.cells #[.slice p0 (64 * N) c0, .slice p1 (64 * N) c1] 22 (0, 0)) := by rw [← hw4, ← hhb]; exact heap_alloc_new _ _
    have h13 : w1.heap.size ≤ hb := by have := HM2.out.size; have := HM3.out.size; omega
    have hjb1 : jb < w1.heap.size := HFR.out.lt
    have htb1 : tb < w1.heap.size := Nat.lt_of_lt_of_le htl HM1.out.size
    have HROWS : Hid (∀ hf : Nat, hf ≤ 1 → ∃ p c, w4.cell? ⟨hb, hf, none⟩ = some (.slice p (64 * N) c) ∧ 64 * N ≤ c ∧ c ≤ maxLen ∧ IsRow (fun k => w1.heap.size ≤ k ∧ k < hb) w4 (.slice p (64 * N) c) (bys (halfOf d hf))) := Lib.hid (fun hf hh => by
      rcases (show hf = 0 ∨ hf = 1 by omega) with rfl | rfl
      · exact ⟨p0, c0, cell_of hb4 0, hc0, hc0m, (((HR0.out.here.modNil HM3.out).modNil hm4)).mono (fun k _ h => ⟨h.1, by have := h.2; have := HM3.out.size; omega⟩)⟩
      · exact ⟨p1, c1, cell_of hb4 1, hc1, hc1m, (HR1.out.here.modNil hm4).mono (fun k _ h => ⟨by have := h.1; have := HM2.out.size; omega, by have := h.2; omega⟩)⟩)
    have HM4 : Hid (Mod nil w1 w4) := Lib.hid ((HM2.out.thenNil HM3.out).thenNil hm4)
    have h4s : hb < w4.heap.size := heap_lt hb4
    have HFR4 : Hid (IsJ (fun k => k = jb ∨ hb < k) w4 jb tb db (looksTo d 0)) := Lib.hid ((HFR.out.modNil HM4.out).mono (fun k _ h => .inl h))
    clear hw4 hm4 hb4 HM2 HM3 HR0 HR1 HFR hc0 hc0m hc1 hc1m
    go_wp2_with fail
    go_loopw [27] (fun v27 wr => ∃ i : Nat, i ≤ 2 ∧ v27 = .int .i64 i ∧ Hid (IsJ (fun k => k = jb ∨ hb < k) wr jb tb db (looksTo d i)) ∧ Hid (IsTab wr tb) ∧ Hid (Mod (fun k => k = tb ∨ k = jb) w4 wr)) (fun v _ => 2 - (intOf v).toNat)
    case atStart => exact ⟨0, by omega, rfl, HFR4, Lib.hid ((HT.out.mod HM1.out (not_nil _)).mod HM4.out (not_nil _)), Lib.hid (Mod.refl _ _)⟩
    case round =>
      obtain ⟨i, hi, rfl, HJ, HTB, HM⟩ := hrel
      by_cases hlt : i < 2
      · obtain ⟨p, c, hc, h1, h2, h3⟩ := HROWS.out i (by omega)
        have e := cell_kept hc HM.out h4s (by omega)
        have HR := Lib.hid (h3.here.mod HM.out (fun k _ h => by have := h.1.1; omega))
        have hlt' : (i : Int) < 2 := by omega
        clear h3 hc
        go_wp2_with fail
        refine (jTakes _ _ jb tb db i _ p (64 * N) c _ wr HJ.out HTB.out HR.out (fun k h => ⟨by have := HM.out.size; omega, by have := h.1.1; omega⟩) (by omega) h1 h2).mono ?_
        rintro e w6 ⟨rfl, hj6, ht6, hm6⟩
        have HJ6 : Hid (IsJ (fun k => k = jb ∨ hb < k) w6 jb tb db (looksTo d (i + 1))) := Lib.hid (hj6.mono (fun k _ h => h.elim id (fun h => .inr (by have := HM.out.size; omega))))
        have HT6 := Lib.hid ht6
        have HM6 : Hid (Mod (fun k => k = tb ∨ k = jb) w4 w6) := Lib.hid (HM.out.trans hm6 (fun _ _ h => h))
        clear hj6 ht6 hm6
        go_wp2_with fail
        exact ⟨⟨i + 1, by omega, by go_num, HJ6, HT6, HM6⟩, by simp [intOf]; omega⟩
      · obtain rfl : i = 2 := by omega
        have hlk : looksTo d 2 = d.looks := rfl
        rw [hlk] at HJ
        clear hlk
        obtain ⟨hf, hhf⟩ : ∃ hf, d.looks.half = hf := ⟨_, rfl⟩
        rw [hhf] at ho HLIM
        obtain ⟨p, c, hc, h1, h2, h3⟩ := HROWS.out hf HLIM.out.1
        have e := cell_kept hc HM.out h4s (by omega)
        have HR := Lib.hid (h3.here.mod HM.out (fun k _ h => by have := h.1.1; omega))
        obtain ⟨pp, cp, pr, cr, q1, -, -⟩ := HJ.out.ex
        have e3 := cell_of q1 3
        simp only [List.getElem?_toArray, List.getElem?_cons_zero, List.getElem?_cons_succ] at e3
        rw [hhf] at e3
        have hf2 : (hf : Int) < 2 := by have := HLIM.out.1; omega
        have HO := Lib.hid ho
        have hszr := HM.out.size
        clear q1 h3 hc ho hhf
        simp only [Int.cast_ofNat_Int]
        go_wp2_with fail
        refine (jFollows _ _ jb tb db _ p (64 * N) c _ wr HJ.out HTB.out HR.out (fun k h => ⟨by omega, by have := h.1.1; omega, by have := h.1.1; have := h.1.2; omega⟩) (by omega) h1 h2 (by have := HLIM.out.2.1; omega) (by omega) (by rw [HLIM.out.2.2]; simp)).mono ?_
        rintro e w7 ⟨rfl, hj7, ht7, hm7⟩
        have hjb0 := HJB.out
        have HE := Lib.hid (HEND.out _ jb w7 (by rw [HO.out]; exact hj7) (fun k h => by omega) ht7 ((HM1.out.thenNil HM4.out).ofNil.trans ((HM.out.mono (T := fun k => k = tb ∨ k = jb ∨ hb < k) (fun k _ h => by omega)).trans hm7 (fun k _ h => h)) (fun k hk h => by omega)) (by omega))
        clear hj7 ht7 hm7 hjb0
        go_wp2_with fail
        exact HE.out
end Go.Proofs.YtjilbnpehgigjaaGreat

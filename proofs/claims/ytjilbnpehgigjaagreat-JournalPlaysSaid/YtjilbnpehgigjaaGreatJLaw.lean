/- Package journal: Open. -/
import Derived.Test.YtjilbnpehgigjaaGreatJPlainD
import Derived.Test.YtjilbnpehgigjaaGreatJAppend
import Derived.Test.YtjilbnpehgigjaaGreatJPic
import Derived.Test.YtjilbnpehgigjaaGreatRefLists
namespace Go.Proofs.YtjilbnpehgigjaaGreat
open Go.RowKit
theorem IsJ.fresh {w : World} {jb tb db : Nat} {down : Bool} (h : w.heap[jb]? = some (.cells #[.pointer (some ⟨tb, 0, none⟩), .pointer (some ⟨db, 0, none⟩), .bool down, .int .i64 0, .int .i64 0, .bool false, .slice none 0 0, .slice none 0 0, .int .i64 0] 84 (0, 0))) : IsJ (· = jb) w jb tb db ⟨down, false, 0, 0, 0, [], []⟩ :=
  ⟨rfl, none, 0, none, 0, h, (IsVec.nil _ _ 5 1).row, IsTexts.nil _ _⟩
def looksTo (d : DS) : Nat → JS
  | 0 => JS.fresh d
  | i + 1 => (looksTo d i).takes i (halfOf d i)
set_option maxRecDepth 100000 in
set_option maxHeartbeats 4000000 in
theorem jOpen (F : Nat → Prop) (tb db bl bm : Nat) (d : DS) (w : World) (h : IsDT F w tb db bl bm d) :
    Calls Tryz.prog 8 #[.pointer (some ⟨tb, 0, none⟩), .pointer (some ⟨db, 0, none⟩)] w fun e w' => ∃ jb, e = .returned (.pointer (some ⟨jb, 0, none⟩)) ∧ w.heap.size ≤ jb ∧ IsJD (fun k => F k ∨ w.heap.size ≤ k) w' jb tb db bl bm d.opens d ∧ Mod (· = tb) w w' := by
  refine (?_ : ∀ Post : Ending → World → Prop, Hid (∀ e w', (∃ jb, e = .returned (.pointer (some ⟨jb, 0, none⟩)) ∧ w.heap.size ≤ jb ∧ IsJD (fun k => F k ∨ w.heap.size ≤ k) w' jb tb db bl bm d.opens d ∧ Mod (· = tb) w w') → Post e w') → Calls Tryz.prog 8 #[.pointer (some ⟨tb, 0, none⟩), .pointer (some ⟨db, 0, none⟩)] w Post) _ (Lib.hid (fun _ _ h => h))
  intro Post HPOST
  obtain ⟨ht, C, hd, h4⟩ := h
  have htl := ht.lt
  have HDN : Hid (Calls Tryz.prog 27 #[.pointer (some ⟨db, 0, none⟩)] w fun e w' => e = .returned (.bool d.down) ∧ w = w') := Lib.hid (diskDown db bl bm C d w hd)
  have HEND : Hid (∀ S jb W, IsJ S W jb tb db d.opens → (∀ k, S k → w.heap.size ≤ k) → IsTab W tb → Mod (· = tb) w W → w.heap.size ≤ jb → Post (.returned (.pointer (some ⟨jb, 0, none⟩))) W) := Lib.hid (fun S jb W hj hS ht hm hjb => HPOST.out _ _ ⟨jb, rfl, hjb, IsJD.pack (S0 := fun _ => False) (C0 := C) (w0 := w) w.heap.size hj (hd.mod hm (fun k _ h e => (h4 k h).2.1 e)) ht (Nat.le_refl _) (fun _ h => h.elim) (fun k h => h4 k (h.elim False.elim id)) htl hm.size (fun k _ h => .inr (hS k h)) (fun k _ h => .inl h), hm⟩)
  obtain ⟨N, hN⟩ : ∃ N, d.lasts.length / 2 = N := ⟨_, rfl⟩
  have hNb : N ≤ 4096 := by have := hd.room; omega
  have HT := Lib.hid ht
  have HD := Lib.hid hd
  have hdbl : db < w.heap.size := (h4 db (.inl rfl)).2.2
  clear hd h4 ht
  obtain ⟨jb, hjb⟩ : ∃ jb, w.heap.size = jb := ⟨_, rfl⟩
  have HJB := Lib.hid hjb
  cases hdd : d.down with
  | true =>
    have ho : d.opens = JS.fresh d := if_pos hdd
    rw [hdd] at HDN
    go_enter Tryz.func8, Tryz.ntmps8
    go_wp2_with fail
    refine HDN.out.mono ?_
    rintro e w' ⟨rfl, rfl⟩
    go_upto_region 2 with (fail)
    generalize hw1 : World.alloc w _ = w1
    have hm1 : Mod nil w w1 := by rw [← hw1]; exact (Mod.refl _ _).alloc _
    have hb1 : w1.heap[jb]? = some (.cells #[.pointer (some ⟨tb, 0, none⟩), .pointer (some ⟨db, 0, none⟩), .bool true, .int .i64 0, .int .i64 0, .bool false, .slice none 0 0, .slice none 0 0, .int .i64 0] 84 (0, 0)) := by rw [← hw1, ← hjb]; exact heap_alloc_new _ _
    have c2 := cell_of hb1 2
    simp only [List.getElem?_toArray, List.getElem?_cons_zero, List.getElem?_cons_succ] at c2
    have HE := Lib.hid (HEND.out (· = jb) jb w1 (by rw [ho]; unfold JS.fresh; rw [hdd]; exact IsJ.fresh hb1) (fun k e => by rw [e, hjb]; exact Nat.le_refl _) (HT.out.mod hm1 (not_nil _)) hm1.ofNil (by rw [hjb]; exact Nat.le_refl _))
    clear hw1 hm1 hb1 hjb ho hdd
    go_wp2_with fail
    exact HE.out
  | false =>
    have ho : d.opens = d.looks.follows (halfOf d d.looks.half) := if_neg (by rw [hdd]; decide)
    have HDN' := HDN
    rw [hdd] at HDN
    go_enter Tryz.func8, Tryz.ntmps8
    go_wp2_with fail
    refine HDN.out.mono ?_
    rintro e w' ⟨rfl, rfl⟩
    go_upto_region 2 with (fail)
    generalize hw1 : World.alloc w _ = w1
    have hm1 : Mod nil w w1 := by rw [← hw1]; exact (Mod.refl _ _).alloc _
    have hb1 : w1.heap[jb]? = some (.cells #[.pointer (some ⟨tb, 0, none⟩), .pointer (some ⟨db, 0, none⟩), .bool false, .int .i64 0, .int .i64 0, .bool false, .slice none 0 0, .slice none 0 0, .int .i64 0] 84 (0, 0)) := by rw [← hw1, ← hjb]; exact heap_alloc_new _ _
    have c2 := cell_of hb1 2
    have c1 := cell_of hb1 1
    simp only [List.getElem?_toArray, List.getElem?_cons_zero, List.getElem?_cons_succ] at c2 c1
    have HFR : Hid (IsJ (· = jb) w1 jb tb db (JS.fresh d)) := Lib.hid (by unfold JS.fresh; rw [hdd]; exact IsJ.fresh hb1)
    have HM1 := Lib.hid hm1
    have HRD : Hid (∀ (hf : Nat) (W : World), hf ≤ 1 → Mod nil w1 W → Calls Tryz.prog 31 #[.pointer (some ⟨jb, 0, none⟩), .int .i64 hf] W fun e w' => ∃ p c, e = .returned (.slice p (64 * N) c) ∧ 64 * N ≤ c ∧ c ≤ maxLen ∧ IsRow (fun k => W.heap.size ≤ k) w' (.slice p (64 * N) c) (bys (halfOf d hf)) ∧ Mod nil W w') := Lib.hid (fun hf W hh hm => by
      refine (jRead jb db bl bm hf C d W (cell_kept c1 hm (World.block_lt_of_cell? _ _ c1) (not_nil _)) (HD.out.modNil (hm1.thenNil hm)) hh hdd).mono ?_
      rintro e w' ⟨v, rfl, hv, hm'⟩
      obtain ⟨p, c, rfl, h1, h2⟩ := vecCap hv
      have h := hv.row
      have e : sectorsAt d (hf * (d.lasts.length / 2)) (d.lasts.length / 2) = halfOf d hf := rfl
      rw [e] at h
      rw [hN] at h h1 ⊢
      exact ⟨p, c, rfl, h1, h2, h, hm'⟩)
    have HLK : Hid (∀ hf, hf ≤ 1 → (halfOf d hf).length = 64 * N) := Lib.hid (fun hf hh => by
      unfold halfOf
      rw [hN]
      exact sectorsAt_length _ _ _ (fun i hi => read_64 w db bl bm C d HD.out _ hdd (by rcases (show hf = 0 ∨ hf = 1 by omega) with rfl | rfl <;> omega)))
    have HLIM : Hid (d.looks.half ≤ 1 ∧ d.looks.at_ ≤ N ∧ d.looks.recs = []) := Lib.hid (by
      have := d.looks_lim (fun hf hh => by rw [hN]; exact HLK.out hf hh)
      rw [hN] at this
      exact ⟨this.1, this.2.1, this.2.2.1⟩)
    clear hw1 hm1 hb1 c1 hdd
    go_wp2_with fail
    have hz : (0 : Int) = ((0 : Nat) : Int) := rfl
    refine (HRD.out 0 w1 (by omega) (Mod.refl _ _)).mono ?_
    rintro e w2 ⟨p0, c0, rfl, hc0, hc0m, hr0, hm2⟩
    clear hz
    have HM2 := Lib.hid hm2
    have HR0 := Lib.hid hr0
    clear hm2 hr0
    go_wp2_with fail
    refine (HRD.out 1 w2 (by omega) HM2.out).mono ?_
    rintro e w3 ⟨p1, c1, rfl, hc1, hc1m, hr1, hm3⟩
    have HM3 := Lib.hid hm3
    have HR1 := Lib.hid hr1
    clear hm3 hr1
    go_upto_region 5 with (fail)
    obtain ⟨hb, hhb⟩ : ∃ hb, w3.heap.size = hb := ⟨_, rfl⟩
    (try rw [hhb])
    generalize hw4 : World.alloc w3 _ = w4
    have hm4 : Mod nil w3 w4 := by rw [← hw4]; exact (Mod.refl _ _).alloc _
    have hb4 : w4.heap[hb]? = some (.cells #[.slice p0 (64 * N) c0, .slice p1 (64 * N) c1] 22 (0, 0)) := by rw [← hw4, ← hhb]; exact heap_alloc_new _ _
    have h13 : w1.heap.size ≤ hb := by have := HM2.out.size; have := HM3.out.size; omega
    have hjb1 : jb < w1.heap.size := HFR.out.lt
    have htb1 : tb < w1.heap.size := Nat.lt_of_lt_of_le htl HM1.out.size
    have HROWS : Hid (∀ hf : Nat, hf ≤ 1 → ∃ p c, w4.cell? ⟨hb, hf, none⟩ = some (.slice p (64 * N) c) ∧ 64 * N ≤ c ∧ c ≤ maxLen ∧ IsRow (fun k => w1.heap.size ≤ k ∧ k < hb) w4 (.slice p (64 * N) c) (bys (halfOf d hf))) := Lib.hid (fun hf hh => by
      rcases (show hf = 0 ∨ hf = 1 by omega) with rfl | rfl
      · exact ⟨p0, c0, cell_of hb4 0, hc0, hc0m, (((HR0.out.here.modNil HM3.out).modNil hm4)).mono (fun k _ h => ⟨h.1, by have := h.2; have := HM3.out.size; omega⟩)⟩
      · exact ⟨p1, c1, cell_of hb4 1, hc1, hc1m, (HR1.out.here.modNil hm4).mono (fun k _ h => ⟨by have := h.1; have := HM2.out.size; omega, by have := h.2; omega⟩)⟩)
    have HM4 : Hid (Mod nil w1 w4) := Lib.hid ((HM2.out.thenNil HM3.out).thenNil hm4)
    have h4s : hb < w4.heap.size := heap_lt hb4
    have HFR4 : Hid (IsJ (fun k => k = jb ∨ hb < k) w4 jb tb db (looksTo d 0)) := Lib.hid ((HFR.out.modNil HM4.out).mono (fun k _ h => .inl h))
    clear hw4 hm4 hb4 HM2 HM3 HR0 HR1 HFR hc0 hc0m hc1 hc1m
    go_wp2_with fail
    go_loopw [27] (fun v27 wr => ∃ i : Nat, i ≤ 2 ∧ v27 = .int .i64 i ∧ Hid (IsJ (fun k => k = jb ∨ hb < k) wr jb tb db (looksTo d i)) ∧ Hid (IsTab wr tb) ∧ Hid (Mod (fun k => k = tb ∨ k = jb) w4 wr)) (fun v _ => 2 - (intOf v).toNat)
    case atStart => exact ⟨0, by omega, rfl, HFR4, Lib.hid ((HT.out.mod HM1.out (not_nil _)).mod HM4.out (not_nil _)), Lib.hid (Mod.refl _ _)⟩
    case round =>
      obtain ⟨i, hi, rfl, HJ, HTB, HM⟩ := hrel
      by_cases hlt : i < 2
      · obtain ⟨p, c, hc, h1, h2, h3⟩ := HROWS.out i (by omega)
        have e := cell_kept hc HM.out h4s (by omega)
        have HR := Lib.hid (h3.here.mod HM.out (fun k _ h => by have := h.1.1; omega))
        have hlt' : (i : Int) < 2 := by omega
        clear h3 hc
        go_wp2_with fail
        refine (jTakes _ _ jb tb db i _ p (64 * N) c _ wr HJ.out HTB.out HR.out (fun k h => ⟨by have := HM.out.size; omega, by have := h.1.1; omega⟩) (by omega) h1 h2).mono ?_
        rintro e w6 ⟨rfl, hj6, ht6, hm6⟩
        have HJ6 : Hid (IsJ (fun k => k = jb ∨ hb < k) w6 jb tb db (looksTo d (i + 1))) := Lib.hid (hj6.mono (fun k _ h => h.elim id (fun h => .inr (by have := HM.out.size; omega))))
        have HT6 := Lib.hid ht6
        have HM6 : Hid (Mod (fun k => k = tb ∨ k = jb) w4 w6) := Lib.hid (HM.out.trans hm6 (fun _ _ h => h))
        clear hj6 ht6 hm6
        go_wp2_with fail
        exact ⟨⟨i + 1, by omega, by go_num, HJ6, HT6, HM6⟩, by simp [intOf]; omega⟩
      · obtain rfl : i = 2 := by omega
        have hlk : looksTo d 2 = d.looks := rfl
        rw [hlk] at HJ
        clear hlk
        obtain ⟨hf, hhf⟩ : ∃ hf, d.looks.half = hf := ⟨_, rfl⟩
        rw [hhf] at ho HLIM
        obtain ⟨p, c, hc, h1, h2, h3⟩ := HROWS.out hf HLIM.out.1
        have e := cell_kept hc HM.out h4s (by omega)
        have HR := Lib.hid (h3.here.mod HM.out (fun k _ h => by have := h.1.1; omega))
        obtain ⟨pp, cp, pr, cr, q1, -, -⟩ := HJ.out.ex
        have e3 := cell_of q1 3
        simp only [List.getElem?_toArray, List.getElem?_cons_zero, List.getElem?_cons_succ] at e3
        rw [hhf] at e3
        have hf2 : (hf : Int) < 2 := by have := HLIM.out.1; omega
        have HO := Lib.hid ho
        have hszr := HM.out.size
        clear q1 h3 hc ho hhf
        simp only [Int.cast_ofNat_Int]
        go_wp2_with fail
        refine (jFollows _ _ jb tb db _ p (64 * N) c _ wr HJ.out HTB.out HR.out (fun k h => ⟨by omega, by have := h.1.1; omega, by have := h.1.1; have := h.1.2; omega⟩) (by omega) h1 h2 (by have := HLIM.out.2.1; omega) (by omega) (by rw [HLIM.out.2.2]; simp)).mono ?_
        rintro e w7 ⟨rfl, hj7, ht7, hm7⟩
        have hjb0 := HJB.out
        have HE := Lib.hid (HEND.out _ jb w7 (by rw [HO.out]; exact hj7) (fun k h => by omega) ht7 ((HM1.out.thenNil HM4.out).ofNil.trans ((HM.out.mono (T := fun k => k = tb ∨ k = jb ∨ hb < k) (fun k _ h => by omega)).trans hm7 (fun k _ h => h)) (fun k hk h => by omega)) (by omega))
        clear hj7 ht7 hm7 hjb0
        go_wp2_with fail
        exact HE.out
end Go.Proofs.YtjilbnpehgigjaaGreat

/- cfllaw8: a journal that a statement plays with; the disk that is new; first. -/
namespace Go.Proofs.YtjilbnpehgigjaaGreat
open Go.RowKit
theorem mem_secs {c : List (List UInt8)} {base k : Nat} {x : UInt8} (h : x ∈ secs c base k) : ∃ l ∈ c, x ∈ l := by
  unfold secs at h
  obtain ⟨l, h1, h2⟩ := List.mem_flatten.1 h
  exact ⟨l, List.mem_of_mem_drop (List.mem_of_mem_take h1), h2⟩
theorem freshDisk_good (n : Nat) : Good (freshDisk n) n := by
  have hc : (freshDisk n).curs = List.replicate n zeros64 := curs_none _ _ _
  refine ⟨rfl, rfl, by simp [freshDisk], ?_⟩
  rw [hc]
  intro x hx
  rw [(List.mem_replicate.1 hx).2]
  simp [zeros64]
theorem freshDisk_PI (n N : Nat) (hN : n / 2 = N) (hn : n ≤ 8192) : PI (freshDisk n).curs N (JS.fresh (freshDisk n)) := by
  have hg := freshDisk_good n
  have hc : (freshDisk n).curs = List.replicate n zeros64 := curs_none _ _ _
  have hz : ∀ G base k, noF G (secs (freshDisk n).curs base k) := fun G base k => noF_none (getF_mark0 (fun e => by
    have hm := List.mem_of_getElem? e
    rw [hc] at hm
    obtain ⟨l, h1, h2⟩ := mem_secs hm
    rw [(List.mem_replicate.1 h1).2] at h2
    have := (List.mem_replicate.1 h2).2
    exact absurd this (by decide)))
  exact ⟨rfl, ⟨Nat.zero_le _, Nat.zero_le _, Nat.le_refl _, Nat.zero_le _⟩, fun _ => ⟨rfl, rfl, rfl⟩, ⟨Nat.zero_le _, fun r hr => by simp [JS.fresh] at hr⟩, rfl, ⟨by rw [hg.clen]; omega, by omega⟩, hg.all64, by simp [JS.fresh, secs, JS.img, recsImg], fun p _ => hz _ _ _, fun p _ _ => hz _ _ _, fun p _ => hz _ _ _⟩
theorem IsDT.of {F C : Nat → Prop} {w : World} {tb db bl bm : Nat} {d : DS} (hd : IsDisk w db bl bm C d) (ht : IsTab w tb) (hC : ∀ k, foot db bl bm C k → k < w.heap.size → F k ∧ k ≠ tb) : IsDT F w tb db bl bm d := by
  obtain ⟨vl, h1, _⟩ := hd.lasts
  obtain ⟨vm, h4, _⟩ := hd.pend
  have a1 := heap_lt hd.obj
  have a2 := heap_lt h1
  have a3 := h4.lt
  refine ⟨ht, _, hd.here, fun k hk => ?_⟩
  have hlt : k < w.heap.size := by
    rcases hk with h | h | h | h
    · omega
    · omega
    · omega
    · exact h.2
  have hf : foot db bl bm C k := by
    rcases hk with h | h | h | h
    · exact .inl h
    · exact .inr (.inl h)
    · exact .inr (.inr (.inl h))
    · exact .inr (.inr (.inr h.1))
  exact ⟨(hC k hf hlt).1, (hC k hf hlt).2, hlt⟩
/-- the journal's methods that only tell, by IsJD -/
theorem jdPicture {F : Nat → Prop} {jb tb db bl bm : Nat} {s : JS} {d : DS} {w : World} (h : IsJD F w jb tb db bl bm s d) (hl : s.pict.length ≤ 60000) :
    Calls Tryz.prog 15 #[.pointer (some ⟨jb, 0, none⟩)] w fun e w' => ∃ p c, e = .returned (.tuple #[.slice p s.pict.length c, .bool s.has]) ∧ IsVec (fun k => w.heap.size ≤ k) w' 5 1 (.slice p s.pict.length c) s.pict.length (bys s.pict) ∧ Mod nil w w' := by
  obtain ⟨S, C, hj, -⟩ := h.ex
  exact jPicture S jb tb db s w hj hl
theorem jdRecordsC {F : Nat → Prop} {jb tb db bl bm : Nat} {s : JS} {d : DS} {w : World} (h : IsJD F w jb tb db bl bm s d) (hl : ∀ r ∈ s.recs, r.length ≤ 60000) (hn : s.recs.length ≤ 100000) :
    Calls Tryz.prog 13 #[.pointer (some ⟨jb, 0, none⟩)] w fun e w' => ∃ p c, e = .returned (.slice p s.recs.length c) ∧ IsTextsC (fun k => w.heap.size ≤ k) w' (.slice p s.recs.length c) s.recs.length s.recs ∧ Mod nil w w' := by
  obtain ⟨S, C, hj, hd, -⟩ := h.ex
  refine (jRecords S jb tb db s w hj hl hn).mono ?_
  rintro e w' ⟨v, rfl, hv, hm⟩
  obtain ⟨p, c, rfl⟩ := hv.form
  exact ⟨p, c, rfl, hv, hm⟩
theorem jdRecords {F : Nat → Prop} {jb tb db bl bm : Nat} {s : JS} {d : DS} {w : World} (h : IsJD F w jb tb db bl bm s d) (hl : ∀ r ∈ s.recs, r.length ≤ 60000) (hn : s.recs.length ≤ 100000) :
    Calls Tryz.prog 13 #[.pointer (some ⟨jb, 0, none⟩)] w fun e w' => ∃ p c, e = .returned (.slice p s.recs.length c) ∧ IsTexts (fun k => w.heap.size ≤ k) w' (.slice p s.recs.length c) s.recs.length s.recs ∧ Mod nil w w' := by
  obtain ⟨S, C, hj, -⟩ := h.ex
  refine (jRecords S jb tb db s w hj hl hn).mono ?_
  rintro e w' ⟨v, rfl, hv, hm⟩
  obtain ⟨p, c, rfl⟩ := hv.form
  exact ⟨p, c, rfl, hv.texts, hm⟩
theorem jdGen {F : Nat → Prop} {jb tb db bl bm : Nat} {s : JS} {d : DS} {w : World} (h : IsJD F w jb tb db bl bm s d) :
    Calls Tryz.prog 29 #[.pointer (some ⟨jb, 0, none⟩)] w fun e w' => e = .returned (.int .i64 s.gen) ∧ w = w' := by
  obtain ⟨S, C, hj, -⟩ := h.ex
  exact jGen S jb tb db s w hj
theorem jdRoom {F : Nat → Prop} {jb tb db bl bm : Nat} {s : JS} {d : DS} {w : World} (h : IsJD F w jb tb db bl bm s d) (ha : s.at_ ≤ d.lasts.length / 2) :
    Calls Tryz.prog 30 #[.pointer (some ⟨jb, 0, none⟩)] w fun e w' => e = .returned (.int .i64 ((d.lasts.length / 2 - s.at_ : Nat) : Int)) ∧ Mod nil w w' := by
  obtain ⟨S, C, hj, hd, -⟩ := h.ex
  refine (jRoom S jb tb db bl bm C d s w hj hd (by have := hd.room; omega)).mono ?_
  rintro e w' ⟨rfl, n, rfl⟩
  exact ⟨by congr 2; omega, (Mod.refl _ _).drewN n⟩
theorem IsTab.modAt {w w' : World} {tb : Nat} (h : IsTab w tb) (m : Mod nil w w') : IsTab w' tb := h.mod m (not_nil _)
set_option maxHeartbeats 1000000 in
theorem jFirst (w : World) : Calls Tryz.prog 5 #[] w fun e w' => e = .returned (.bool true) ∧ Mod nil w w' := by
  refine (?_ : ∀ Post : Ending → World → Prop, Hid (∀ e w', (e = .returned (.bool true) ∧ Mod nil w w') → Post e w') → Calls Tryz.prog 5 #[] w Post) _ (Lib.hid (fun _ _ h => h))
  intro Post HPOST
  go_enter Tryz.func5, Tryz.ntmps5
  go_wp2_with fail
  refine (diskNew 8 w (by omega) (by omega)).mono ?_
  rintro e w1 ⟨db, bl, bm, C, rfl, hd1, hfoot, hm1⟩
  obtain ⟨d, hd⟩ : ∃ d, freshDisk 8 = d := ⟨_, rfl⟩
  have HG : Hid (Good d 8) := Lib.hid (by rw [← hd]; exact freshDisk_good 8)
  have HP : Hid (PI d.curs 4 (JS.fresh d)) := Lib.hid (by rw [← hd]; exact freshDisk_PI 8 4 rfl (by omega))
  rw [hd] at hd1
  clear hd
  go_wp2_with fail
  refine (shaNewTable w1).mono ?_
  rintro e w2 ⟨tb, rfl, ht2, htb, hm2⟩
  have HDT : Hid (IsDT (fun k => w.heap.size ≤ k) w2 tb db bl bm d) := Lib.hid (IsDT.of (hd1.here.modNil hm2) ht2 (fun k hk _ => by
    obtain ⟨vl, h1, _⟩ := hd1.lasts
    obtain ⟨vm, h4, _⟩ := hd1.pend
    have a1 := heap_lt hd1.obj
    have a2 := heap_lt h1
    have a3 := h4.lt
    have q1 := hfoot db (.inl rfl)
    have q2 := hfoot bl (.inr (.inl rfl))
    have q3 := hfoot bm (.inr (.inr (.inl rfl)))
    rcases hk with h | h | h | h
    · omega
    · omega
    · omega
    · have := h.2; have := hfoot k (.inr (.inr (.inr h.1))); omega))
  have HM2 : Hid (Mod nil w w2) := Lib.hid (hm1.thenNil hm2)
  have htb0 : w.heap.size ≤ tb := Nat.le_trans hm1.size htb
  clear hd1 hfoot hm1 ht2 hm2 htb
  go_wp2_with fail
  refine (jOpen _ tb db bl bm d w2 HDT.out).mono ?_
  rintro e w3 ⟨jb, rfl, hjb, hj3, hm3⟩
  have hop := HP.out.opens HG.out rfl
  rw [hop] at hj3
  have HJ3 := Lib.hid hj3
  have HM3 : Hid (Mod nil w w3) := Lib.hid (HM2.out.new hm3 (fun k h => by rw [h]; exact htb0))
  clear hj3 hm3 hop
  go_wp2_with fail
  refine (jdPicture HJ3.out (by simp [JS.fresh])).mono ?_
  rintro e w4 ⟨p4, c4, rfl, -, hm4⟩
  rw [show (JS.fresh d).has = false from rfl, show (JS.fresh d).pict.length = 0 from rfl]
  have HJ4 := Lib.hid (HJ3.out.modNil hm4)
  have HM4 := Lib.hid (HM3.out.thenNil hm4)
  clear hm4
  go_wp2_with fail
  refine (jdRecords HJ4.out (by simp [JS.fresh]) (by simp [JS.fresh])).mono ?_
  rintro e w5 ⟨p5, c5, rfl, -, hm5⟩
  rw [show (JS.fresh d).recs.length = 0 from rfl]
  have HJ5 := Lib.hid (HJ4.out.modNil hm5)
  have HM5 := Lib.hid (HM4.out.thenNil hm5)
  clear hm5
  go_wp2_with fail
  refine (jdGen HJ5.out).mono ?_
  rintro e w6 ⟨rfl, rfl⟩
  rw [show (JS.fresh d).gen = 0 from rfl]
  go_wp2_with fail
  refine (jdRoom HJ5.out (Nat.zero_le _)).mono ?_
  rw [HG.out.len, show (JS.fresh d).at_ = 0 from rfl]
  rintro e w7 ⟨rfl, hm7⟩
  have HE := Lib.hid (HPOST.out _ _ ⟨rfl, HM5.out.thenNil hm7⟩)
  clear hm7
  go_wp2_with fail
  exact HE.out
end Go.Proofs.YtjilbnpehgigjaaGreat

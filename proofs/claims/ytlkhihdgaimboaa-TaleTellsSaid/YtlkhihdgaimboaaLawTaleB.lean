/- The walk over TaleEvents. -/
import Derived.Test.YtlkhihdgaimboaaTaleH
import Derived.Test.YtlkhihdgaimboaaLawTale
namespace Go.Proofs.Ytlkhihdgaimboaa
open Go.RowKit

/-- what every event keeps to -/
structure EvOk (m : EvM) (n : Nat) : Prop where
  k1 : 1 ≤ m.k
  k11 : m.k ≤ 11
  k10 : m.k ≠ 10
  a0 : 0 ≤ m.a
  an : m.a < n + 2
  b0 : 0 ≤ m.b
  b1 : m.b ≤ 1
  n3 : -3 ≤ m.n
  n11 : m.n ≤ 11
  keep : m.keep.length ≤ 8
  bytes : m.bytes.length ≤ 3
  act : m.k = 3 ∨ m.k = 11 → m.a < n
theorem eventOf_ok (c : List UInt8) (n : Nat) (h2 : 2 ≤ n) : EvOk (eventOf c n) n := by
  have hx := Nat.mod_lt (c.getD 1 0).toNat (show 0 < n by omega)
  have hw := Nat.mod_lt (c.getD 1 0).toNat (show 0 < n + 2 by omega)
  unfold eventOf
  generalize (c.getD 1 0).toNat % n = X at *
  generalize (c.getD 1 0).toNat % (n + 2) = Wh at *
  repeat' split
  all_goals refine ⟨?_, ?_, ?_, ?_, ?_, ?_, ?_, ?_, ?_, ?_, ?_, ?_⟩
  all_goals first | omega | (simp only [bitsTo_length, List.length_nil, List.length_cons]; omega) | (simp <;> omega)
theorem all2_split {α β : Type} {R : α → β → Prop} : ∀ {l : List α} {m : List β}, All2 R l m → ∀ i, i < l.length → ∃ l1 a l2 b, l = l1 ++ a :: l2 ∧ b ∈ m ∧ l1.length = i ∧ R a b
  | [], [], _, i, hi => by simp at hi
  | a :: l, b :: m, h, 0, _ => ⟨[], a, l, b, rfl, by simp, rfl, h.1⟩
  | a :: l, b :: m, h, i + 1, hi => by
    obtain ⟨l1, x, l2, y, h1, h2, h3, h4⟩ := all2_split h.2 i (by simpa using hi)
    exact ⟨a :: l1, x, l2, y, by rw [h1]; rfl, List.mem_cons_of_mem _ h2, by simp [h3], h4⟩
  | [], _ :: _, h, _, _ => h.elim
  | _ :: _, [], h, _, _ => h.elim
theorem eventsAll_ok (b : List UInt8) (n : Nat) (h2 : 2 ≤ n) : ∀ m ∈ eventsAll b n, EvOk m n := by
  intro m hm
  unfold eventsAll at hm
  split at hm
  · unfold eventsTo at hm
    obtain ⟨x, _, rfl⟩ := List.mem_map.1 hm
    rw [Int.toNat_natCast]
    exact eventOf_ok _ n h2
  · cases hm
theorem eventsAll_length (b : List UInt8) (n : Nat) (h2 : 2 ≤ n) (h16 : n ≤ 16) : (eventsAll b n).length = min (b.length / 4) 400 := by
  unfold eventsAll
  rw [if_pos (by omega), eventsTo_length]
/-- an event of an owned slice -/
theorem evd_at {S : Nat → Prop} {w : World} {p : Option Addr} {c N n : Nat} {es : List Ev} {ms : List EvM} (h : Evd S w (.slice p N c) N es ms) (hok : ∀ m ∈ ms, EvOk m n) (i : Nat) (hi : i < N) :
    ∃ g, p = some ⟨g, 0, none⟩ ∧ ∃ k a b nn px cx py cy, ∃ m : EvM, EvOk m n ∧ k = m.k ∧ a = m.a ∧ b = m.b ∧ nn = m.n ∧ 
      ∀ j, j < 15 → w.cell? ⟨g, i * 15 + j, none⟩ = some (([.int .i64 k, .int .i64 a, .int .i64 b, .int .i64 nn, .slice px m.bytes.length cx, .slice py m.keep.length cy, .int .i64 0, .slice none 0 0, .slice none 0 0, .string ⟨#[]⟩, .int .i64 0, .int .i64 0, .int .i64 0, .slice none 0 0, .string ⟨#[]⟩] : List Value).getD j undef) := by
  obtain ⟨hv, ha⟩ := h
  have hl : es.length = N := by have := hv.len; rw [evs_length] at this; omega
  obtain ⟨g, rfl, -, -, hc⟩ := vec_block hv (by omega)
  obtain ⟨l1, e, l2, m, h1, h2, h3, h4⟩ := all2_split ha i (by omega)
  obtain ⟨k, a, b, nn, x, y⟩ := e
  obtain ⟨e1, e2, e3, e4, ⟨px, cx, e5, _⟩, ⟨py, cy, e6, _⟩⟩ := h4
  simp only at e1 e2 e3 e4 e5 e6
  subst e5 e6
  refine ⟨g, rfl, k, a, b, nn, px, cx, py, cy, m, hok m h2, e1, e2, e3, e4, fun j hj => ?_⟩
  have hcj := hc (i * 15 + j) (by omega)
  rw [h1] at hcj
  rw [hcj, ← h3, evs_at l1 l2 _ j hj]
  rw [bys_length, bools_length]
  rfl
theorem Rd.bytesCap {w : World} {v : Value} (h : Rd w 22 v) : ∃ (p : Option Addr) (cap : Nat) (l : List UInt8), v = .slice p l.length cap ∧ l.length ≤ cap ∧ cap ≤ maxLen ∧ IsRow (· < w.heap.size) w (.slice p l.length cap) (bys l) := by
  obtain ⟨p, len, cap, rfl, hc, hm, -⟩ := Rd.slice Try.underlying22 (by rw [show Try.prog.cellsOf 5 = 1 from by kernel_rfl]; omega) h
  obtain ⟨l, hl, hn⟩ := h.bytes
  obtain ⟨p', c', hv, r⟩ := id hl
  simp only [Value.slice.injEq, bys_length] at hv
  obtain ⟨rfl, rfl, rfl⟩ := hv
  exact ⟨_, _, l, rfl, hc, hm, hl⟩
theorem bys_take (l : List UInt8) (n : Nat) : bys (l.take n) = (bys l).take n := by simp [bys, List.map_take]
theorem row_take {S : Nat → Prop} {w : World} {p : Option Addr} {n c : Nat} {xs : List Value} (h : IsRow S w (.slice p n c) xs) (k : Nat) (hk : k ≤ xs.length) : IsRow S w (.slice p k c) (xs.take k) := by
  obtain ⟨p', c', hv, hc⟩ := h
  simp only [Value.slice.injEq] at hv
  obtain ⟨rfl, -, rfl⟩ := hv
  refine ⟨p, c, by rw [List.length_take, Nat.min_eq_left hk], fun i hi => ?_⟩
  rw [List.length_take] at hi
  obtain ⟨b, off, h1, h2, h3, h4⟩ := hc i (by omega)
  refine ⟨b, off, h1, h2, h3, ?_⟩
  rw [h4, List.getD_eq_getElem?_getD, List.getD_eq_getElem?_getD, List.getElem?_take_of_lt (by omega)]
theorem IsVec.form_cap {S : Nat → Prop} {w : World} {E : TypeId} {sz n : Nat} {v : Value} {xs : List Value} (h : IsVec S w E sz v n xs) : ∃ p c, v = .slice p n c ∧ n ≤ c := by
  rcases h.1.2 with ⟨rfl, rfl⟩ | ⟨g, cap, cur, rfl, _, _, h, _⟩
  · exact ⟨_, _, rfl, Nat.le_refl _⟩
  · exact ⟨_, _, rfl, h⟩
theorem slice_front (p : Option Addr) (len cap h : Nat) (hh : h ≤ cap) (W : World) : (Instr.slice 22 (.slice p len cap) none (some (.int .i64 (h : Int))) none).run Try.prog W = .ok (.slice p h cap) W := by
  obtain ⟨i0, hi, hz0, hz1, hz2⟩ := info_parts info_u8
  have he : Try.prog.elem 22 = 5 := by simp [Program.elem, Try.underlying22]
  have hu : Try.prog.underlying 22 = some (.slice (Try.prog.elem 22)) := by rw [he]; exact Try.underlying22
  rw [run_slice_h W _ p len cap hu .i64 h (by omega) (by omega)]
  have hs : (sizeOf (Try.prog.elem 22)).run Try.prog W = .ok 1 W := by
    rw [he]
    simp [sizeOf, typeInfo, hi, hz1]
  rw [hs]
  simp [sliced, Addr.add]
theorem lawTaleEvents_long (n : Int) (p : Option Addr) (len cap : Nat) (w : World) (hb : 2000 < len) : Calls Try.prog 4 #[.slice p len cap, .int .i64 n] w fun e w' => e = .returned (.bool true) ∧ Mod nil w w' := by
  have h1 : decide ((2000 : Int) < (len : Int)) = true := decide_eq_true (by omega)
  have h2 : (2000 : Int) < (len : Int) := by omega
  go_enter Try.func4, Try.ntmps4
  go_wp2_with fail
  refine (taleFirst w).mono ?_
  rintro e w1 ⟨rfl, hm1⟩
  go_wp2_with fail
  refine (taleFirst w1).mono ?_
  rintro e w2 ⟨rfl, hm2⟩
  go_wp2_with fail
  go_ret
  exact ⟨rfl, hm1.thenNil hm2⟩
theorem lawTaleEvents_bad (T : Nat → Prop) (n : Int) (p : Option Addr) (len cap : Nat) (b : List UInt8) (w : World) (hrow : IsRow T w (.slice p len cap) (bys b)) (hcap : len ≤ cap) (hlen : len ≤ 2000) (hb : n < 2 ∨ 16 < n) : Calls Try.prog 4 #[.slice p len cap, .int .i64 n] w fun e w' => e = .returned (.bool true) ∧ Mod nil w w' := by
  have hbl : len = b.length := by
    obtain ⟨_, _, h, _⟩ := hrow
    simp only [Value.slice.injEq, bys_length] at h
    exact h.2.1
  have h1 : decide ((2000 : Int) < (len : Int)) = false := decide_eq_false (by omega)
  have h2 : ¬ (2000 : Int) < (len : Int) := by omega
  have HROW := Lib.hid hrow
  have HL : Hid (b.length ≤ 1099511627776) := Lib.hid (by omega)
  have hall : eventsAll b n = [] := by unfold eventsAll; rw [if_neg (by omega)]
  clear hrow hbl
  rcases hb with hb | hb
  all_goals
    go_enter Try.func4, Try.ntmps4
    go_wp2_with fail
    refine (taleFirst w).mono ?_
    rintro e w1 ⟨rfl, hm1⟩
    go_wp2_with fail
    refine (taleFirst w1).mono ?_
    rintro e w2 ⟨rfl, hm2⟩
    go_wp2_with fail
    refine (taleEvents T p len cap b n w2 (HROW.out.modNil (hm1.thenNil hm2)) hcap HL.out).mono ?_
    rw [hall]
    rintro e w3 ⟨v', es, rfl, hev, hm3⟩
    obtain ⟨p', c', rfl⟩ := hev.1.form
    clear hev
    go_wp2_with fail
    go_ret
    exact ⟨rfl, (hm1.thenNil hm2).thenNil hm3⟩
set_option maxRecDepth 100000 in
set_option maxHeartbeats 4000000 in
theorem lawTaleEvents (T : Nat → Prop) (p0 : Option Addr) (len cap : Nat) (b : List UInt8) (n : Nat) (w : World) (hrow : IsRow T w (.slice p0 len cap) (bys b)) (hcap : len ≤ cap) (hcm : cap ≤ maxLen) (hl : len ≤ 2000) (hn2 : 2 ≤ n) (hn : n ≤ 16) :
    Calls Try.prog 4 #[.slice p0 len cap, .int .i64 n] w fun e w' => e = .returned (.bool true) ∧ Mod nil w w' := by
  refine (?_ : ∀ Post : Ending → World → Prop, Hid (∀ e w', (e = .returned (.bool true) ∧ Mod nil w w') → Post e w') → Calls Try.prog 4 #[.slice p0 len cap, .int .i64 n] w Post) _ (Lib.hid (fun _ _ h => h))
  intro Post HPOST
  have HROW := Lib.hid hrow
  obtain rfl : len = b.length := by
    obtain ⟨_, _, h, _⟩ := hrow
    simp only [Value.slice.injEq, bys_length] at h
    exact h.2.1
  obtain ⟨L, hL⟩ : ∃ L, b.length = L := ⟨_, rfl⟩
  rw [hL] at HROW hl hcap ⊢
  have HLB := Lib.hid hL
  obtain ⟨Q, hQ⟩ : ∃ Q, L / 4 = Q := ⟨_, rfl⟩
  have hq : (L : Int).tdiv 4 = (Q : Int) := by rw [← hQ]; rfl
  have HQ := Lib.hid hQ
  obtain ⟨N, hN⟩ : ∃ N, (eventsAll b n).length = N := ⟨_, rfl⟩
  have hNQ : N = min Q 400 := by rw [← hN, eventsAll_length b n hn2 hn, hL, hQ]
  have HNQ := Lib.hid hNQ
  have HN := Lib.hid hN
  have hN400 : N ≤ 400 := by omega
  have HEV : Hid (∀ w', Mod nil w w' → Calls Try.prog 8 #[.slice p0 L cap, .int .i64 n] w' fun e w'' => ∃ p c es, e = .returned (.slice p N c) ∧ Evd (fun k => w'.heap.size ≤ k) w'' (.slice p N c) N es (eventsAll b n) ∧ Mod nil w' w'') := Lib.hid (fun w' m =>
    (taleEvents T p0 L cap b n w' (HROW.out.modNil m) hcap (by rw [hL]; omega)).mono fun e w'' ⟨v', es, h1, h2, h3⟩ => by
      rw [hN] at h2
      obtain ⟨p, c, rfl⟩ := h2.1.form
      exact ⟨p, c, es, h1, h2, h3⟩)
  clear hrow hL hQ hN hNQ
  go_enter Try.func4, Try.ntmps4
  go_wp2_with fail
  refine (taleFirst w).mono ?_
  rintro e w1 ⟨rfl, hm1⟩
  have HM1 := Lib.hid hm1
  clear hm1
  go_wp2_with fail
  refine (HEV.out w1 HM1.out).mono ?_
  rintro e w2 ⟨pv, cv, es, rfl, hev, hm2⟩
  have HEVD := Lib.hid hev
  have HM2 := Lib.hid (HM1.out.thenNil hm2)
  clear hm2 hev
  have hwQ : wrap64 (Q : Int) = (Q : Int) := by have := HQ.out; unfold wrap64; omega
  have hwQ' : IntKind.i64.wrap (Q : Int) = (Q : Int) := by have := HQ.out; rw [IntKind.wrap_i64]; omega
  go_upto_region 6 with (fail)
  go_cut [38, 39, 40, 41, 42, 43, 44] from 45 (fun _ _ _ _ _ _ s44 wx => w2 = wx ∧ s44 = .bool false)
  case first =>
    rcases (show Q ≤ 400 ∨ 400 < Q by omega) with h | h
    · have e1 : N = Q := by have := HNQ.out; omega
      subst e1
      go_wp2_with fail
      all_goals go_meet
      all_goals first | exact ⟨rfl, rfl⟩ | (exfalso; omega) | (exact ⟨rfl, by congr 1; simp; omega⟩)
    · have e1 : N = 400 := by have := HNQ.out; omega
      subst e1
      go_wp2_with fail
      all_goals go_meet
      all_goals first | exact ⟨rfl, rfl⟩ | (exfalso; omega) | (exact ⟨rfl, by congr 1; simp; omega⟩)
  case rest =>
  obtain ⟨rfl, rfl⟩ := hcut
  clear hwQ hwQ'
  go_wp2_with fail
  go_loopw [6] (fun v6 wr => ∃ i : Nat, i ≤ N ∧ v6 = .int .i64 i ∧ Hid (Mod nil w2 wr)) (fun v _ => N - (intOf v).toNat)
  case atStart => exact ⟨0, by omega, rfl, Lib.hid (Mod.refl _ _)⟩
  case round =>
    obtain ⟨i, hi, rfl, HMR⟩ := hrel
    by_cases hlt : i < N
    · obtain ⟨gl, rfl, k, a, b', nn, px, cx, py, cy, m, hok, e1, e2, e3, e4, hcells⟩ := evd_at HEVD.out (eventsAll_ok b n hn2) i hlt
      have hc' : ∀ j, j < 15 → wr.cell? ⟨gl, i * 15 + j, none⟩ = _ := fun j hj => cell_kept (hcells j hj) HMR.out (World.block_lt_of_cell? _ _ (hcells j hj)) (not_nil _)
      have s0 := hc' 0 (by omega)
      have s1 := hc' 1 (by omega)
      have s2 := hc' 2 (by omega)
      have s3 := hc' 3 (by omega)
      have s4 := hc' 4 (by omega)
      have s5 := hc' 5 (by omega)
      have s6 := hc' 6 (by omega)
      have s7 := hc' 7 (by omega)
      have s8 := hc' 8 (by omega)
      have s9 := hc' 9 (by omega)
      have s10 := hc' 10 (by omega)
      have s11 := hc' 11 (by omega)
      have s12 := hc' 12 (by omega)
      have s13 := hc' 13 (by omega)
      have s14 := hc' 14 (by omega)
      simp only [List.getD_cons_zero, List.getD_cons_succ, Nat.add_zero] at s0 s1 s2 s3 s4 s5 s6 s7 s8 s9 s10 s11 s12 s13 s14
      obtain ⟨LB, hLB⟩ : ∃ LB, m.bytes.length = LB := ⟨_, rfl⟩
      obtain ⟨LK, hLK⟩ : ∃ LK, m.keep.length = LK := ⟨_, rfl⟩
      have hOK : Hid (1 ≤ k ∧ k ≤ 11 ∧ k ≠ 10 ∧ 0 ≤ a ∧ a < n + 2 ∧ 0 ≤ b' ∧ b' ≤ 1 ∧ -3 ≤ nn ∧ nn ≤ 11 ∧ LK ≤ 8 ∧ LB ≤ 3 ∧ (k = 3 ∨ k = 11 → a < n)) := Lib.hid (by rw [e1, e2, e3, e4, ← hLB, ← hLK]; exact ⟨hok.k1, hok.k11, hok.k10, hok.a0, hok.an, hok.b0, hok.b1, hok.n3, hok.n11, hok.keep, hok.bytes, hok.act⟩)
      rw [hLB] at s4
      rw [hLK] at s5
      clear hc' hcells e1 e2 e3 e4 hok hLB hLK
      go_upto_region 12 with (fail)
      clear s0 s1 s2 s3 s4 s5 s6 s7 s8 s9 s10 s11 s12 s13 s14
      obtain ⟨ge, hge⟩ : ∃ ge, wr.heap.size = ge := ⟨_, rfl⟩
      generalize hwe : World.alloc wr _ = we
      have hbe : we.heap[ge]? = some (.cells #[.int .i64 k, .int .i64 a, .int .i64 b', .int .i64 nn, .slice px LB cx, .slice py LK cy, .int .i64 0, .slice none 0 0, .slice none 0 0, .string ⟨#[]⟩, .int .i64 0, .int .i64 0, .int .i64 0, .slice none 0 0, .string ⟨#[]⟩] 32 (0, 0)) := by rw [← hwe, ← hge]; exact heap_alloc_new _ _
      have HME : Hid (Mod nil w2 we) := Lib.hid (by rw [← hwe]; exact HMR.out.alloc _)
      have d0 := cell_of hbe 0
      have d1 := cell_of hbe 1
      have d2 := cell_of hbe 2
      have d3 := cell_of hbe 3
      have d4 := cell_of hbe 4
      have d5 := cell_of hbe 5
      simp only [List.getElem?_toArray, List.getElem?_cons_zero, List.getElem?_cons_succ] at d0 d1 d2 d3 d4 d5
      rw [hge]
      clear hbe hwe hge HMR
      have hwn : IntKind.i64.wrap ((n : Int) + 2) = (n : Int) + 2 := by rw [IntKind.wrap_i64]; omega
      obtain ⟨q1, q2, q3, q4, q5, q6, q7, q8, q9, q10, q11, q12⟩ := hOK.out
      have t1 : ¬ k < 1 := by omega
      have t2 : ¬ 11 < k := by omega
      have t3 : ¬ k = 10 := by omega
      have t4 : ¬ a < 0 := by omega
      have t5 : ¬ (n : Int) + 2 ≤ a := by omega
      have t6 : ¬ b' < 0 := by omega
      have t7 : ¬ 1 < b' := by omega
      have t8 : ¬ nn < -3 := by omega
      have t9 : ¬ 11 < nn := by omega
      have t10 : ¬ (8 : Int) < (LK : Int) := by omega
      have t11 : ¬ (3 : Int) < (LB : Int) := by omega
      have hun : undef = Value.tuple #[] := rfl
      rcases (show k = 3 ∨ k = 11 ∨ (¬ k = 3 ∧ ¬ k = 11) by omega) with rfl | rfl | ⟨h3, h11⟩
      · have t12 : ¬ (n : Int) ≤ a := by have := q12 (.inl rfl); omega
        clear q1 q2 q3 q4 q5 q6 q7 q8 q9 q10 q11 q12 t1 t2 t3
        go_upto_region 10 with (fail)
        rw [← hun]
        clear hun
        go_wp2_with fail
        exact ⟨⟨i + 1, by omega, rfl, HME⟩, by simp [intOf] <;> omega⟩
      · have t12 : ¬ (n : Int) ≤ a := by have := q12 (.inr rfl); omega
        clear q1 q2 q3 q4 q5 q6 q7 q8 q9 q10 q11 q12 t1 t2 t3
        go_upto_region 10 with (fail)
        rw [← hun]
        clear hun
        go_wp2_with fail
        exact ⟨⟨i + 1, by omega, rfl, HME⟩, by simp [intOf] <;> omega⟩
      · clear q1 q2 q3 q4 q5 q6 q7 q8 q9 q10 q11 q12
        go_upto_region 10 with (fail)
        rw [← hun]
        clear hun
        go_wp2_with fail
        exact ⟨⟨i + 1, by omega, rfl, HME⟩, by simp [intOf] <;> omega⟩
    · obtain rfl : i = N := by omega
      have HMW := Lib.hid (HM2.out.thenNil HMR.out)
      have hw4 : IntKind.i64.wrap ((Q : Int) * 4) = ((4 * Q : Nat) : Int) := by have := HQ.out; rw [IntKind.wrap_i64]; omega
      have hw5 : wrap64 ((Q : Int) * 4) = ((4 * Q : Nat) : Int) := by have := HQ.out; unfold wrap64; omega
      have h4L : 4 * Q ≤ L := by have := HQ.out; omega
      have hsl := fun W => slice_front p0 L cap (4 * Q) (by omega) W
      obtain ⟨l4, hl4⟩ : ∃ l4, b.take (4 * Q) = l4 := ⟨_, rfl⟩
      have hl4n : l4.length = 4 * Q := by rw [← hl4, List.length_take, HLB.out]; omega
      have HL4 := Lib.hid hl4n
      obtain ⟨ge, hge⟩ : ∃ ge, wr.heap.size = ge := ⟨_, rfl⟩
      obtain ⟨we, hwe⟩ : ∃ we, wr.alloc (.cells #[] 5) = we := ⟨_, rfl⟩
      have hve : IsVec (fun k => ge ≤ k) we 5 1 (.slice (some ⟨ge, 0, none⟩) 0 0) 0 [] := by rw [← hge, ← hwe]; exact vec_empty wr _ _
      have hme : Mod nil w we := by rw [← hwe]; exact HMW.out.alloc _
      have hrt : IsRow T we (.slice p0 (4 * Q) cap) (bys l4) := by
        have h1 := row_take (HROW.out.modNil hme) (4 * Q) (by rw [bys_length, HLB.out]; omega)
        rw [← bys_take, hl4] at h1
        exact h1
      obtain ⟨v1, x1, hrun1, hv1, hmx1⟩ := bytes_append (l := []) (m := l4) 22 hve hrt (by rw [hl4n]; simp; omega)
      rw [List.nil_append] at hv1
      have hm1' : Mod nil w x1 := hme.new hmx1 (fun k hk => by have := HMW.out.size; omega)
      obtain ⟨g3, hg3⟩ : ∃ g3, x1.heap.size = g3 := ⟨_, rfl⟩
      obtain ⟨x2, hx2⟩ : ∃ x2, x1.alloc (.cells #[.int .u8 1, .int .u8 2, .int .u8 3] 5) = x2 := ⟨_, rfl⟩
      have hr3 : IsRow (· = g3) x2 (.slice (some ⟨g3, 0, none⟩) 3 3) (bys [1, 2, 3]) := by
        have h : x2.heap[g3]? = some (.cells (bys [1, 2, 3]).toArray 5 (0, 0)) := by rw [← hx2, ← hg3]; exact heap_alloc_new x1 _
        exact IsRow.ofBlock (S := (· = g3)) h rfl 3 3 rfl
      have hm2' : Mod nil w x2 := by rw [← hx2]; exact hm1'.alloc _
      obtain ⟨v3, x3, hrun2, hv3, hmx3⟩ := bytes_append (l := l4) (m := [1, 2, 3]) 22 (hv1.modNil (show Mod nil x1 x2 by rw [← hx2]; exact (Mod.refl _ _).alloc _)) hr3 (by rw [hl4n]; simp; omega)
      have hm3' : Mod nil w x3 := hm2'.new hmx3 (fun k hk => by have := HMW.out.size; have := hme.size; omega)
      have hlen3 : (l4 ++ [1, 2, 3]).length = 4 * Q + 3 := by rw [List.length_append, hl4n]; rfl
      obtain ⟨p3, c3, hv3f, hc3⟩ := hv3.form_cap
      subst hv3f
      have HLAST : Hid (Calls Try.prog 8 #[.slice p3 (4 * Q + 3) c3, .int .i64 n] x3 fun e w' => ∃ p c, e = .returned (.slice p i c) ∧ Mod nil x3 w') := Lib.hid ((taleEvents _ p3 (4 * Q + 3) c3 (l4 ++ [1, 2, 3]) n x3 (by have := hv3.row; rw [hlen3] at this; exact this) (by rw [hlen3] at hc3; exact hc3) (by rw [hlen3]; omega)).mono fun e w' ⟨v', es, h1, h2, h3⟩ => by
        obtain ⟨p, c, rfl⟩ := h2.1.form
        refine ⟨p, c, ?_, h3⟩
        rw [h1, eventsAll_length _ n hn2 hn, hlen3, show (4 * Q + 3) / 4 = Q by omega, ← HNQ.out])
      rw [hlen3] at hrun2
      have HRUN1 := Lib.hid hrun1
      have HRUN2 := Lib.hid hrun2
      have HM3 := Lib.hid hm3'
      clear hv3 hv1 hrt hve hme hrun1 hrun2 hmx1 hmx3 hm1' hm2' hm3' hr3 hl4 hl4n hlen3 hc3 HMR
      go_wp2_with (first | (at_builtin; refine wpList_append_run rfl _ _ _ _ rfl rfl rfl HRUN1.out ?_) | (at_builtin; refine wpList_append_run rfl _ _ _ _ rfl rfl rfl HRUN2.out ?_))
      refine HLAST.out.mono ?_
      rintro e w5 ⟨p5, c5, rfl, hm5⟩
      have HM5 := Lib.hid (HM3.out.thenNil hm5)
      clear hm5
      go_wp2_with fail
      refine (taleFirst w5).mono ?_
      rintro e w6 ⟨rfl, hm6⟩
      have HM6 := Lib.hid (HM5.out.thenNil hm6)
      clear hm6
      go_wp2_with fail
      exact HPOST.out _ _ ⟨rfl, HM6.out⟩
theorem walkTaleEvents (v0 v1 : Value) (W : World) (r0 : Rd W 22 v0) (r1 : Rd W 3 v1) : Calls Try.prog 4 #[v0, v1] W fun e w' => e = .returned (.bool true) ∧ Below W.heap.size W w' := by
  obtain ⟨p, cap, b, rfl, hcap, hcm, hrow⟩ := r0.bytesCap
  obtain ⟨n, rfl, -⟩ := Rd.int Try.underlying3 r1
  by_cases h1 : 2000 < b.length
  · exact (lawTaleEvents_long n p _ cap W h1).mono fun e w' ⟨h1, h2⟩ => ⟨h1, h2.below⟩
  · by_cases h2 : n < 2 ∨ 16 < n
    · exact (lawTaleEvents_bad _ n p _ cap b W hrow hcap (by omega) h2).mono fun e w' ⟨h1, h2⟩ => ⟨h1, h2.below⟩
    · obtain ⟨k, rfl⟩ : ∃ k : Nat, n = k := ⟨n.toNat, by omega⟩
      exact (lawTaleEvents _ p _ cap b k W hrow hcap hcm (by omega) (by omega) (by omega)).mono fun e w' ⟨h1, h2⟩ => ⟨h1, h2.below⟩
end Go.Proofs.Ytlkhihdgaimboaa

/- DiskPlays: the walk. -/
import Derived.Test.YtgfehfkcjgfekaaLawDiskLasts
import Derived.Test.YtgfehfkcjgfekaaRefNew
namespace Go.Proofs.Ytgfehfkcjgfekaa
open Go.RowKit

theorem refBytesSame (S T : Nat → Prop) (va vb : Value) (la lb : List UInt8) (w : World) (ha : IsRow S w va (bys la)) (hb : IsRow T w vb (bys lb)) :
    Calls Try.prog 13 #[va, vb] w fun e w' => e = .returned (.bool (decide (la = lb))) ∧ w = w' := by
  have ra := rowText (ha.modNil (Mod.refl nil w))
  have rb := rowText (hb.modNil (Mod.refl nil w))
  obtain ⟨pa, ca, rfl, _⟩ := ha
  obtain ⟨pb, cb, rfl, _⟩ := hb
  go_enter Try.func13, Try.ntmps13
  go_wp2_with fail
  go_ret
  exact ⟨congrArg Ending.returned (congrArg Value.bool (show (la == lb) = decide (la = lb) from by rw [Bool.eq_iff_iff]; simp)), rfl⟩
/-- an operation of the statement's -/
structure DOp where
  kind : Int
  i : Int
  n : Int
  b : UInt8
  kv : Value
  keep : List Bool
def DOp.cells (o : DOp) : List Value := [.int .i64 o.kind, .int .i64 o.i, .int .i64 o.n, .int .u8 o.b.toNat, o.kv]
def DOp.ok (w : World) (s : Nat) (o : DOp) : Prop := IsRow (· < s) w o.kv (o.keep.map Value.bool) ∧ o.keep.length ≤ 9223372036854775807 ∧ (-9223372036854775808 ≤ o.n ∧ o.n ≤ 9223372036854775807)
def IsDOps (w : World) (s : Nat) (v : Value) (l : List DOp) : Prop :=
  ∃ p c, v = .slice p l.length c ∧ ∀ i, (hi : i < l.length) → ∃ b off, p = some ⟨b, off, none⟩ ∧ b < s ∧
    (∀ j, (hj : j < 5) → w.cell? ⟨b, off + i * 5 + j, none⟩ = some ((l[i].cells)[j]'(by simpa [DOp.cells] using hj))) ∧ l[i].ok w s
theorem Rc.bools {w : World} {v : Value} (h : Rc w 29 [v]) : ∃ l : List Bool, IsRow (· < w.heap.size) w v (l.map Value.bool) ∧ l.length ≤ 9223372036854775807 := by
  obtain ⟨p, len, cap, hv, hl, hm, hall⟩ := h.slice Try.underlying29 (by rw [show Try.prog.cellsOf 4 = 1 from by kernel_rfl]; omega)
  simp only [List.cons.injEq, and_true] at hv
  subst hv
  have hc : Try.prog.cellsOf 4 = 1 := by kernel_rfl
  have : ∀ i, i < len → ∃ x : Bool, ∃ b off, p = some ⟨b, off, none⟩ ∧ b < w.heap.size ∧ w.cell? ⟨b, off + i, none⟩ = some (.bool x) := by
    intro i hi
    obtain ⟨b, off, cs', hp, hb, hlen, hcell, hrc⟩ := hall i hi
    obtain ⟨x, rfl⟩ := hrc.bool Try.underlying4
    refine ⟨x, b, off, hp, hb, ?_⟩
    have := hcell 0 (by simp)
    simpa [hc] using this
  obtain ⟨l, hlen, hP⟩ := choose_list this
  refine ⟨l, ⟨p, cap, by simp [hlen], fun i hi => ?_⟩, by unfold maxLen at hm; omega⟩
  simp at hi
  obtain ⟨b, off, hp, hb, hcell⟩ := hP i hi
  exact ⟨b, off, hp, hb, hb, by rw [hcell]; simp [hi]⟩
theorem Rd.dops {w : World} {v : Value} (h : Rd w 38 v) : ∃ l : List DOp, IsDOps w w.heap.size v l ∧ l.length ≤ maxLen := by
  have hsz : Try.prog.cellsOf 31 = 5 := by kernel_rfl
  obtain ⟨p, len, cap, rfl, hl, hm, hall⟩ := h.slice Try.underlying38 (by omega)
  have : ∀ i, i < len → ∃ x : DOp, ∃ b off, p = some ⟨b, off, none⟩ ∧ b < w.heap.size ∧ (∀ j, (hj : j < 5) → w.cell? ⟨b, off + i * 5 + j, none⟩ = some ((x.cells)[j]'(by simpa [DOp.cells] using hj))) ∧ x.ok w w.heap.size := by
    intro i hi
    obtain ⟨b, off, cs', hp, hb, hlen, hcell, hrc⟩ := hall i hi
    rw [hsz] at hlen hcell
    obtain ⟨_, hf⟩ := hrc.struct Try.underlying31
    have hi1 : Try.prog.cellsOf 3 = 1 := by kernel_rfl
    have hi2 : Try.prog.cellsOf 5 = 1 := by kernel_rfl
    have hi3 : Try.prog.cellsOf 29 = 1 := by kernel_rfl
    match cs', hlen with
    | [c0, c1, c2, c3, c4], _ =>
      have f0 : Rc w 3 [c0] := by simpa [hi1] using hf 0 _ rfl
      have f1 : Rc w 3 [c1] := by simpa [hi1] using hf 1 _ rfl
      have f2 : Rc w 3 [c2] := by simpa [hi1] using hf 2 _ rfl
      have f3 : Rc w 5 [c3] := by simpa [hi2] using hf 3 _ rfl
      have f4 : Rc w 29 [c4] := by simpa [hi3] using hf 4 _ rfl
      obtain ⟨n0, h0, _⟩ := f0.int Try.underlying3
      obtain ⟨n1, h1, _⟩ := f1.int Try.underlying3
      obtain ⟨n2, h2, hw2⟩ := f2.int Try.underlying3
      obtain ⟨n3, h3, hw3⟩ := f3.int Try.underlying5
      obtain ⟨l4, hr4, hl4⟩ := f4.bools
      simp at h0 h1 h2 h3
      subst h0; subst h1; subst h2; subst h3
      have hr : 0 ≤ n3 ∧ n3 ≤ 255 := by simpa [Lit.wf, IntKind.min, IntKind.max, IntKind.bits, IntKind.signed] using hw3
      have hr2 : -9223372036854775808 ≤ n2 ∧ n2 ≤ 9223372036854775807 := by simpa [Lit.wf, IntKind.min, IntKind.max, IntKind.bits, IntKind.signed] using hw2
      obtain ⟨m3, rfl⟩ := Int.eq_ofNat_of_zero_le hr.1
      refine ⟨⟨n0, n1, n2, UInt8.ofNat m3, c4, l4⟩, b, off, hp, hb, fun j hj => ?_, hr4, hl4, hr2⟩
      have hcj := hcell j (by simpa using hj)
      rw [hcj]
      have he : (UInt8.ofNat m3).toNat = m3 := by rw [UInt8.toNat_ofNat', Nat.mod_eq_of_lt (by omega)]
      simp only [DOp.cells, he]
  obtain ⟨l, hlen, hP⟩ := choose_list this
  exact ⟨l, ⟨p, cap, by rw [hlen], hP⟩, by omega⟩
theorem DOp.ok.mod {w w' : World} {s : Nat} {o : DOp} (h : o.ok w s) (m : Mod nil w w') : o.ok w' s := ⟨h.1.modNil m, h.2⟩
theorem IsDOps.mod {w w' : World} {s : Nat} {v : Value} {l : List DOp} (h : IsDOps w s v l) (m : Mod nil w w') (hs : s ≤ w.heap.size) : IsDOps w' s v l := by
  obtain ⟨p, c, rfl, hall⟩ := h
  refine ⟨p, c, rfl, fun i hi => ?_⟩
  obtain ⟨b, off, hp, hb, hc, hk⟩ := hall i hi
  exact ⟨b, off, hp, hb, fun j hj => cell_kept (hc j hj) m (by omega) (not_nil _), hk.mod m⟩
set_option maxRecDepth 100000 in
/-- few: whether there are at most 300 -/
theorem lawFew (v : Value) (l : List DOp) (w : World) (s : Nat) (h : IsDOps w s v l) (hn : l.length ≤ 9223372036854775807) :
    Calls Try.prog 15 #[v] w fun e w' => (e = .returned (.bool false) ∧ w = w') ∨ (e = .returned (.bool true) ∧ w = w' ∧ l.length ≤ 300) := by
  obtain ⟨p, c, rfl, hall⟩ := h
  obtain ⟨n, hln⟩ : ∃ n, l.length = n := ⟨_, rfl⟩
  rw [hln] at hn ⊢
  have HL := Lib.hid hln
  have HALL := Lib.hid hall
  clear hln hall
  go_enter Try.func15, Try.ntmps15
  go_wp2_with fail
  go_loopw [3, 4] (fun u v wr => ∃ (k : Nat) (t : Int), k ≤ n ∧ k ≤ 300 ∧ 0 ≤ t ∧ t ≤ 20001 * k ∧ u = .int .i64 t ∧ v = .int .i64 k ∧ wr = w) (fun _ v _ => n - (intOf v).toNat)
  case atStart => exact ⟨0, 0, by omega, by omega, by omega, by omega, rfl, rfl, rfl⟩
  case round =>
    obtain ⟨k, t, hk, hk3, ht0, ht1, rfl, rfl, rfl⟩ := hrel
    by_cases hlt : k < n ∧ k < 300
    · obtain ⟨hlt1, hlt2⟩ := hlt
      obtain ⟨b, off, hp, hb, hc, hok⟩ := HALL.out k (by have := HL.out; omega)
      subst hp
      have h4 := hc 4 (by omega)
      obtain ⟨pk, ck, hkv, _⟩ := hok.1
      have hkl := hok.2.1
      simp only [DOp.cells, List.getElem_cons_succ, List.getElem_cons_zero, hkv, List.length_map] at h4
      generalize (l[k]'(by have := HL.out; omega)).keep.length = q at h4 hkl
      obtain ⟨x, hx⟩ : ∃ x : Int, min (q : Int) 20001 = x := ⟨_, rfl⟩
      have hx0 : 0 ≤ x ∧ x ≤ 20001 := by omega
      clear hc hok hkv hb
      go_wp2_with fail
      exact ⟨⟨k + 1, t + x, by omega, by omega, by omega, by omega, by go_num, by go_num, trivial⟩, by simp [intOf]; omega⟩
    · have hcase : (k < n ∧ ¬ k < 300) ∨ (¬ k < n ∧ n ≤ 300) := by omega
      rcases hcase with ⟨h1, h2⟩ | ⟨h1, h2⟩
      · go_wp2_with fail
        go_ret
        exact .inl ⟨rfl, rfl⟩
      · by_cases ht : t ≤ 20000
        · go_wp2_with fail
          go_ret
          exact .inr ⟨rfl, rfl, h2⟩
        · go_wp2_with fail
          go_ret
          exact .inl ⟨rfl, rfl⟩
/-- both disks, side by side, told by the same plain disk; their blocks lie from s to t -/
structure Both (w : World) (t s d bl bm x : Nat) (D : DS) : Prop where
  top : t ≤ w.heap.size
  ex : ∃ (C B : Nat → Prop), IsDisk w d bl bm C D ∧ IsRefIn w B x D ∧ (∀ j, foot d bl bm C j → ¬ B j) ∧ (∀ j, foot d bl bm C j → s ≤ j ∧ j < t) ∧ (∀ j, B j → s ≤ j ∧ j < t)
theorem Both.modNil {w w' : World} {t s d bl bm x : Nat} {D : DS} (h : Both w t s d bl bm x D) (m : Mod nil w w') : Both w' t s d bl bm x D := by
  obtain ⟨C, B, h1, h2, h3, h4⟩ := h.ex
  exact ⟨Nat.le_trans h.top m.size, C, B, h1.modNil m, h2.mod m (fun _ _ _ f => f), h3, h4⟩
theorem IsDisk.foot_lt {C : Nat → Prop} {w : World} {d bl bm : Nat} {D : DS} (h : IsDisk w d bl bm C D) : d < w.heap.size ∧ bl < w.heap.size ∧ bm < w.heap.size := by
  obtain ⟨vl, h1, _⟩ := h.lasts
  obtain ⟨vm, h4, _⟩ := h.pend
  exact ⟨heap_lt h.obj, heap_lt h1, h4.lt⟩
theorem Both.ofStep {w w1 w2 : World} {s d bl bm x : Nat} {C C' B B' : Nat → Prop} {D' : DS} (h1 : IsDisk w1 d bl bm C' D') (h2 : IsRefIn w2 B' x D') (m2 : Mod B w1 w2)
    (hC' : ∀ j, C' j → C j ∨ w.heap.size ≤ j) (hB' : ∀ j, B' j → B j ∨ w1.heap.size ≤ j) (hd : ∀ j, foot d bl bm C j → ¬ B j) (hB : ∀ j, B j → s ≤ j ∧ j < w.heap.size) (hs : s ≤ w.heap.size ∧ w.heap.size ≤ w1.heap.size) (hfs : ∀ j, foot d bl bm C j → s ≤ j) : Both w2 w2.heap.size s d bl bm x D' := by
  have hl := h1.foot_lt
  have hnb : ∀ j, foot d bl bm C' j → ¬ B j := by
    intro j hj hb
    rcases hj with h | h | h | h
    · exact hd j (.inl h) hb
    · exact hd j (.inr (.inl h)) hb
    · exact hd j (.inr (.inr (.inl h))) hb
    · rcases hC' j h with h | h
      · exact hd j (.inr (.inr (.inr h))) hb
      · have := (hB j hb).2; omega
  have h1t := h1.trim.mod (T := B) m2 (fun j _ hj => by
    refine hnb j ?_
    rcases hj with h | h | h | h
    · exact .inl h
    · exact .inr (.inl h)
    · exact .inr (.inr (.inl h))
    · exact .inr (.inr (.inr h.1)))
  have h2s := m2.size
  obtain ⟨P1, P2, P3, v1, v2, v3, h, hb, hP⟩ := h2
  refine ⟨Nat.le_refl _, _, fun j => B' j ∧ j < w2.heap.size, h1t, ⟨fun j => P1 j ∧ j < w2.heap.size, fun j => P2 j ∧ j < w2.heap.size, fun j => P3 j ∧ j < w2.heap.size, v1, v2, v3, ?_, ⟨hb, heap_lt h.obj⟩, ?_⟩, ?_, ?_, ?_⟩
  · exact { h with
      now := h.now.trim, last := h.last.trim, pend := h.pend.trim
      p1 := fun k => h.p1 k.1, p2 := fun k => h.p2 k.1, p3 := fun k => h.p3 k.1
      p12 := fun j k k' => h.p12 j k.1 k'.1, p13 := fun j k k' => h.p13 j k.1 k'.1, p23 := fun j k k' => h.p23 j k.1 k'.1 }
  · intro j hj
    rcases hj with h | h | h
    · exact ⟨hP j (.inl h.1), h.2⟩
    · exact ⟨hP j (.inr (.inl h.1)), h.2⟩
    · exact ⟨hP j (.inr (.inr h.1)), h.2⟩
  · intro j hj hj'
    have hjf : foot d bl bm C' j ∧ j < w1.heap.size := by
      rcases hj with h | h | h | h
      · exact ⟨.inl h, by omega⟩
      · exact ⟨.inr (.inl h), by omega⟩
      · exact ⟨.inr (.inr (.inl h)), by omega⟩
      · exact ⟨.inr (.inr (.inr h.1)), h.2⟩
    rcases hB' j hj'.1 with h | h
    · exact hnb j hjf.1 h
    · have := hjf.2; omega
  · intro j hj
    rcases hj with h | h | h | h
    · exact ⟨hfs j (.inl h), by omega⟩
    · exact ⟨hfs j (.inr (.inl h)), by omega⟩
    · exact ⟨hfs j (.inr (.inr (.inl h))), by omega⟩
    · refine ⟨?_, by have := h.2; omega⟩
      rcases hC' j h.1 with h | h
      · exact hfs j (.inr (.inr (.inr h)))
      · omega
  · intro j hj
    refine ⟨?_, hj.2⟩
    rcases hB' j hj.1 with h | h
    · exact (hB j h).1
    · omega
theorem Both.down {w : World} {t s d bl bm x : Nat} {D : DS} (h : Both w t s d bl bm x D) : w.cell? ⟨x, 4, none⟩ = some (.bool D.down) := by
  obtain ⟨C, B, _, ⟨P1, P2, P3, v1, v2, v3, h2, _⟩, _⟩ := h.ex
  exact cell_of h2.obj 4
theorem write_length (D : DS) (i : Int) (l : List UInt8) : (D.write i l).1.lasts.length = D.lasts.length := by
  unfold DS.write
  split
  · rfl
  · split
    · rfl
    · split
      · rw [D.burn_lasts.1]
      · simp only [D.burn_lasts.1]
theorem sync_length (D : DS) : D.sync.1.lasts.length = D.lasts.length := by
  unfold DS.sync
  split
  · rfl
  · split
    · rw [D.burn_lasts.1]
    · simp [DS.synced]
set_option maxRecDepth 100000 in
theorem lawDiskPlays_bad1 (n : Int) (v : Value) (l : List DOp) (w : World) (hl : IsDOps w w.heap.size v l) (hll : l.length ≤ 9223372036854775807) (h : n < 1 ∨ 8192 < n) :
    Calls Try.prog 4 #[.int .i64 n, v] w fun e w' => e = .returned (.bool true) ∧ Mod nil w w' := by
  have HL := Lib.hid hl
  obtain ⟨p, c, rfl, _⟩ := hl
  obtain ⟨q, hq⟩ : ∃ q, l.length = q := ⟨_, rfl⟩
  rw [hq] at hll ⊢
  have HLL := Lib.hid hll
  have HQ := Lib.hid hq
  clear hq
  have hcase : n < 1 ∨ (1 ≤ n ∧ 8192 < n) := by omega
  rcases hcase with h | ⟨h1, h⟩
  all_goals
    go_enter Try.func4, Try.ntmps4
    go_wp2_with fail
    refine (diskFirst w).mono ?_
    rintro e w1 ⟨rfl, hm1⟩
    go_wp2_with fail
    have hfew := lawFew (.slice p q c) l w1 w.heap.size (by have := HL.out; rw [HQ.out] at this; exact this.mod hm1 (Nat.le_refl _)) (by rw [HQ.out]; exact HLL.out)
    refine hfew.mono ?_
    rintro e w2 (⟨rfl, rfl⟩ | ⟨rfl, rfl, _⟩)
    · clear hfew
      go_wp2_with fail
      refine (diskFirst w1).mono ?_
      rintro e w3 ⟨rfl, hm3⟩
      go_wp2_with fail
      go_ret
      exact ⟨rfl, hm1.thenNil hm3⟩
    · clear hfew
      go_wp2_with fail
      refine (diskNew_bad n w1 (by omega)).mono ?_
      rintro e w3 ⟨rfl, rfl⟩
      go_wp2_with fail
      refine (refNew_bad n w1 (by omega)).mono ?_
      rintro e w4 ⟨rfl, rfl⟩
      go_wp2_with fail
      go_loopw [9] (fun v wr => v = .int .i64 0 ∧ wr = w1) (fun _ _ => 0)
      case atStart => exact ⟨rfl, rfl⟩
      case round =>
        obtain ⟨rfl, rfl⟩ := hrel
        go_wp2_with fail
        refine (diskFirst wr).mono ?_
        rintro e w5 ⟨rfl, hm5⟩
        go_wp2_with fail
        go_ret
        exact ⟨rfl, hm1.thenNil hm5⟩
set_option maxRecDepth 100000 in
theorem lawDiskPlays_bad2 (n : Int) (v : Value) (l : List DOp) (w : World) (hl : IsDOps w w.heap.size v l) (hll : l.length ≤ 9223372036854775807) (h : 300 < n ∧ n ≤ 8192) :
    Calls Try.prog 4 #[.int .i64 n, v] w fun e w' => e = .returned (.bool true) ∧ Mod nil w w' := by
  have HL := Lib.hid hl
  obtain ⟨p, c, rfl, _⟩ := hl
  obtain ⟨q, hq⟩ : ∃ q, l.length = q := ⟨_, rfl⟩
  rw [hq] at hll ⊢
  have HLL := Lib.hid hll
  have HQ := Lib.hid hq
  clear hq
  obtain ⟨h1, h2⟩ := h
  go_enter Try.func4, Try.ntmps4
  go_wp2_with fail
  refine (diskFirst w).mono ?_
  rintro e w1 ⟨rfl, hm1⟩
  go_wp2_with fail
  have hfew := lawFew (.slice p q c) l w1 w.heap.size (by have := HL.out; rw [HQ.out] at this; exact this.mod hm1 (Nat.le_refl _)) (by rw [HQ.out]; exact HLL.out)
  refine hfew.mono ?_
  rintro e w2 (⟨rfl, rfl⟩ | ⟨rfl, rfl, _⟩)
  all_goals
    clear hfew
    go_wp2_with fail
    refine (diskFirst w1).mono ?_
    rintro e w3 ⟨rfl, hm3⟩
    go_wp2_with fail
    go_ret
    exact ⟨rfl, hm1.thenNil hm3⟩
set_option maxRecDepth 100000 in
set_option maxHeartbeats 8000000 in
theorem lawDiskPlays (n : Nat) (v : Value) (l : List DOp) (w : World) (hl : IsDOps w w.heap.size v l) (hll : l.length ≤ 9223372036854775807) (h1 : 1 ≤ n) (h300 : n ≤ 300) :
    Calls Try.prog 4 #[.int .i64 n, v] w fun e w' => e = .returned (.bool true) ∧ Mod nil w w' := by
  have HL := Lib.hid hl
  obtain ⟨p, c, rfl, _⟩ := hl
  obtain ⟨q, hq⟩ : ∃ q, l.length = q := ⟨_, rfl⟩
  rw [hq] at hll ⊢
  have HLL := Lib.hid hll
  have HQ := Lib.hid hq
  clear hq
  go_enter Try.func4, Try.ntmps4
  go_wp2_with fail
  refine (diskFirst w).mono ?_
  rintro e w1 ⟨rfl, hm1⟩
  go_wp2_with fail
  have hfew := lawFew (.slice p q c) l w1 w.heap.size (by have := HL.out; rw [HQ.out] at this; exact this.mod hm1 (Nat.le_refl _)) (by rw [HQ.out]; exact HLL.out)
  refine hfew.mono ?_
  rintro e w2 (⟨rfl, rfl⟩ | ⟨rfl, rfl, hq3⟩)
  · clear hfew
    go_wp2_with fail
    refine (diskFirst w1).mono ?_
    rintro e w3 ⟨rfl, hm3⟩
    go_wp2_with fail
    go_ret
    exact ⟨rfl, hm1.thenNil hm3⟩
  · clear hfew
    rw [HQ.out] at hq3
    go_wp2_with fail
    refine (diskNew n w1 (by omega) (by omega)).mono ?_
    rintro e w3 ⟨d, bl, bm, C, rfl, hd3, hfoot, hm3⟩
    go_wp2_with fail
    refine (refNew n w3 (by omega) (by omega)).mono ?_
    rintro e w4 ⟨x, rfl, hx4, hm4⟩
    have hmod4 := (hm1.thenNil hm3).thenNil hm4
    have hlt := hd3.foot_lt
    have hf := hfoot d (.inl rfl)
    have hf2 := hfoot bl (.inr (.inl rfl))
    have hf3 := hfoot bm (.inr (.inr (.inl rfl)))
    have hsz : w.heap.size ≤ w1.heap.size := hm1.size
    have hboth : Both w4 w4.heap.size w.heap.size d bl bm x (freshDisk n) := Both.ofStep (w := w3) (C := fun j => C j ∧ j < w3.heap.size) (B := nil) hd3.trim hx4 hm4 (fun j hj => .inl hj) (fun j hj => .inr hj) (fun _ _ f => f) (fun j hj => hj.elim) ⟨by have := hm3.size; omega, Nat.le_refl _⟩ (fun j hj => by
      rcases hj with h | h | h | h
      · omega
      · omega
      · omega
      · have := hfoot j (.inr (.inr (.inr h.1))); omega)
    have hnew : ∀ (j : Nat), (j = d ∨ j = bl ∨ j = bm) → w.heap.size ≤ j := fun j hj => by omega
    have HBOTH := Lib.hid hboth
    have HM4 := Lib.hid hmod4
    clear hd3 hfoot hm3 hm4 hx4 hmod4 hboth hm1 hlt hnew
    go_wp2_with fail
    go_loopw [9] (fun v wr => ∃ (k t : Nat) (D : DS), k ≤ q ∧ v = .int .i64 k ∧ Both wr t w.heap.size d bl bm x D ∧ D.lasts.length = n ∧ Mod nil w wr) (fun v _ => q - (intOf v).toNat)
    case atStart => exact ⟨0, _, _, by omega, rfl, HBOTH.out, by simp [freshDisk], HM4.out⟩
    case round =>
      obtain ⟨k, t, D, hk, rfl, hb, hlen, hmod⟩ := hrel
      have htw : t ≤ wr.heap.size := hb.top
      have HLEN := Lib.hid hlen
      clear hlen
      by_cases hlt : k < q
      · have hkl : k < l.length := by have := HQ.out; omega
        obtain ⟨p', c', hp', hall⟩ := HL.out
        obtain ⟨bo0, off, hpa, hbs, hcells, hok⟩ := hall k hkl
        simp only [Value.slice.injEq] at hp'
        obtain ⟨rfl, -, rfl⟩ := hp'
        subst hpa
        obtain ⟨⟨kind, i, N, by8, kv, keep⟩, ho⟩ : ∃ o, l[k] = o := ⟨_, rfl⟩
        rw [ho] at hok
        have hc0 := hcells 0 (by omega)
        have hc1 := hcells 1 (by omega)
        have hc2 := hcells 2 (by omega)
        have hc3 := hcells 3 (by omega)
        have hc4 := hcells 4 (by omega)
        simp only [ho, DOp.cells, List.getElem_cons_succ, List.getElem_cons_zero, Nat.add_zero] at hc0 hc1 hc2 hc3 hc4
        replace hc0 := cell_kept hc0 hmod hbs (not_nil _)
        replace hc1 := cell_kept hc1 hmod hbs (not_nil _)
        replace hc2 := cell_kept hc2 hmod hbs (not_nil _)
        replace hc3 := cell_kept hc3 hmod hbs (not_nil _)
        replace hc4 := cell_kept hc4 hmod hbs (not_nil _)
        have hkv0 := hok.1
        have hkl0 := hok.2.1
        obtain ⟨pk, ck, hkv, _⟩ := hkv0
        simp only at hkv hkl0
        rw [List.length_map] at hkv
        subst hkv
        obtain ⟨nk, hnk⟩ : ∃ nk, keep.length = nk := ⟨_, rfl⟩
        rw [hnk] at hc4 hkl0
        have HNK := Lib.hid hnk
        have hrowk := hok.1
        simp only at hrowk
        rw [hnk] at hrowk
        have HROWK := Lib.hid hrowk
        have hNr : -9223372036854775808 ≤ N ∧ N ≤ 9223372036854775807 := hok.2.2
        have HNR := Lib.hid hNr
        have hbo : w.heap.size ≤ wr.heap.size := hmod.size
        clear hok ho hcells hall hkl hNr hnk hrowk
        go_upto_region 14 with (fail)
        have hto : (wr.alloc (.cells #[.int .i64 kind, .int .i64 i, .int .i64 N, .int .u8 by8.toNat, .slice pk nk ck] 31)).heap[wr.heap.size]? = some (.cells #[.int .i64 kind, .int .i64 i, .int .i64 N, .int .u8 by8.toNat, .slice pk nk ck] 31 (0, 0)) := heap_alloc_new _ _
        replace hb := hb.modNil ((Mod.refl nil wr).alloc (.cells #[.int .i64 kind, .int .i64 i, .int .i64 N, .int .u8 by8.toNat, .slice pk nk ck] 31))
        replace hmod := hmod.alloc (.cells #[.int .i64 kind, .int .i64 i, .int .i64 N, .int .u8 by8.toNat, .slice pk nk ck] 31)
        clear hc0 hc1 hc2 hc3 hc4
        have HTO := Lib.hid hto
        have HB := Lib.hid hb
        have HMOD := Lib.hid hmod
        clear hto hb hmod
        generalize wr.alloc (.cells #[.int .i64 kind, .int .i64 i, .int .i64 N, .int .u8 by8.toNat, .slice pk nk ck] 31) = wo at HTO HB HMOD ⊢
        generalize wr.heap.size = bo at HTO hbo htw ⊢
        have hbw := heap_lt HTO.out
        have q0 : wo.cell? ⟨bo, 0, none⟩ = some (.int .i64 kind) := cell_of HTO.out 0
        have q1 : wo.cell? ⟨bo, 1, none⟩ = some (.int .i64 i) := cell_of HTO.out 1
        have q2 : wo.cell? ⟨bo, 2, none⟩ = some (.int .i64 N) := cell_of HTO.out 2
        have q3 : wo.cell? ⟨bo, 3, none⟩ = some (.int .u8 by8.toNat) := cell_of HTO.out 3
        have q4 : wo.cell? ⟨bo, 4, none⟩ = some (.slice pk nk ck) := cell_of HTO.out 4
        have hkind : kind = 0 ∨ kind = 1 ∨ kind = 2 ∨ kind = 3 ∨ kind = 4 ∨ ((kind == 0) = false ∧ (kind == 1) = false ∧ (kind == 2) = false ∧ (kind == 3) = false ∧ (kind == 4) = false) := by
          simp only [beq_eq_false_iff_ne]; omega
        rcases hkind with rfl | rfl | rfl | rfl | rfl | ⟨hk0, hk1, hk2, hk3, hk4⟩
        · obtain ⟨C1, B1, hd1, hx1, hdis, hfo, hBo⟩ := HB.out.ex
          have hwt := HB.out.top
          have hsw := HMOD.out.size
          have hnf : ∀ j, foot d bl bm C1 j → bo ≠ j := fun j hj => by have := hfo j hj; omega
          have hnB : ∀ j, B1 j → bo ≠ j := fun j hj => by have := hBo j hj; omega
          have hfd := (hfo d (.inl rfl)).1
          have hfl := (hfo bl (.inr (.inl rfl))).1
          have hfm := (hfo bm (.inr (.inr (.inl rfl)))).1
          have hgd := (hfo d (.inl rfl)).2
          have hgl := (hfo bl (.inr (.inl rfl))).2
          have hgm := (hfo bm (.inr (.inr (.inl rfl)))).2
          have hBx : B1 x := by obtain ⟨_, _, _, _, _, _, _, h, _⟩ := hx1; exact h
          have hmz : Mod nil wo wo.drew := (Mod.refl nil wo).drew
          have hd0 := hd1.modNil hmz
          have hx0 := hx1.mod hmz (fun _ _ _ f => f)
          have hm0 := HMOD.out.thenNil hmz
          have hbot : bo < wo.heap.size := hbw
          clear hd1 hx1 hmz
          go_wp2_with fail
          go_region_held3 (fun w' => w'.cell? ⟨bo, 0, none⟩ = some (.int .i64 0) ∧ w'.cell? ⟨bo, 1, none⟩ = some (.int .i64 i) ∧ w'.cell? ⟨bo, 2, none⟩ = some (.int .i64 N) ∧ w'.cell? ⟨bo, 3, none⟩ = some (.int .u8 by8.toNat) ∧ w'.cell? ⟨bo, 4, none⟩ = some (.slice pk nk ck)) (first | exact ⟨q0, q1, q2, q3, q4⟩) (first
            | (go_at_call 17; refine (refWrite x B1 (· = gC) D i _ (textOf by8 (min (max N 0) 100).toNat) _ hxC hrowC (fun j hj hb => by have := hBo j hb; omega) (by rw [textOf_length]; omega)).mono ?_; rintro e wD ⟨rfl, hxD, hmD⟩; replace q0 := cell_kept q0 hmD (World.block_lt_of_cell? _ _ q0) (fun h => hnB bo h rfl); replace q1 := cell_kept q1 hmD (World.block_lt_of_cell? _ _ q1) (fun h => hnB bo h rfl); replace q2 := cell_kept q2 hmD (World.block_lt_of_cell? _ _ q2) (fun h => hnB bo h rfl); replace q3 := cell_kept q3 hmD (World.block_lt_of_cell? _ _ q3) (fun h => hnB bo h rfl); replace q4 := cell_kept q4 hmD (World.block_lt_of_cell? _ _ q4) (fun h => hnB bo h rfl))
            | (go_at_call 11; refine (diskWrite d bl bm C1 (· = gA) D i _ (textOf by8 (min (max N 0) 100).toNat) _ hdA hrowA (show ¬ d = gA by omega) (by rw [textOf_length]; omega)).mono ?_; rintro e wB ⟨C5, rfl, hdB, hC5, hmB⟩; have hxB := hxA.mod hmB (fun j _ hj h => hdis j (by rcases h with h | h; exact .inl h; exact .inr (.inr (.inl h))) hj); have hmB2 := hmA.new hmB (fun j hj => by omega); replace q0 := cell_kept q0 hmB (World.block_lt_of_cell? _ _ q0) (fun h => by omega); replace q1 := cell_kept q1 hmB (World.block_lt_of_cell? _ _ q1) (fun h => by omega); replace q2 := cell_kept q2 hmB (World.block_lt_of_cell? _ _ q2) (fun h => by omega); replace q3 := cell_kept q3 hmB (World.block_lt_of_cell? _ _ q3) (fun h => by omega); replace q4 := cell_kept q4 hmB (World.block_lt_of_cell? _ _ q4) (fun h => by omega))
            | (go_at_call 10; have hdB' := hdB; refine (lawText _ _ N by8 _ _ HNR.out).mono ?_; rintro e wC ⟨gC, rfl, hgC, hhC, hmC⟩; have hrowC : IsRow (· = gC) wC (.slice (some ⟨gC, 0, none⟩) (min (max N 0) 100).toNat (min (max N 0) 100).toNat) (bys (textOf by8 (min (max N 0) 100).toNat)) := IsRow.ofBlock (S := (· = gC)) hhC rfl _ _ (by simp [bys_length, textOf_length]); have hdC := hdB.modNil hmC; have hxC := hxB.mod hmC (fun _ _ _ f => f); have hmC2 := hmB2.thenNil hmC; have hsB := hmB.size; replace q0 := cell_kept q0 hmC (World.block_lt_of_cell? _ _ q0) (not_nil _); replace q1 := cell_kept q1 hmC (World.block_lt_of_cell? _ _ q1) (not_nil _); replace q2 := cell_kept q2 hmC (World.block_lt_of_cell? _ _ q2) (not_nil _); replace q3 := cell_kept q3 hmC (World.block_lt_of_cell? _ _ q3) (not_nil _); replace q4 := cell_kept q4 hmC (World.block_lt_of_cell? _ _ q4) (not_nil _))
            | (go_at_call 10; refine (lawText _ _ N by8 _ _ HNR.out).mono ?_; rintro e wA ⟨gA, rfl, hgA, hhA, hmA0⟩; have hrowA : IsRow (· = gA) wA (.slice (some ⟨gA, 0, none⟩) (min (max N 0) 100).toNat (min (max N 0) 100).toNat) (bys (textOf by8 (min (max N 0) 100).toNat)) := IsRow.ofBlock (S := (· = gA)) hhA rfl _ _ (by simp [bys_length, textOf_length]); have hdA := hd0.modNil hmA0; have hxA := hx0.mod hmA0 (fun _ _ _ f => f); have hmA := hm0.thenNil hmA0; replace hgA : wo.heap.size ≤ gA := hgA; have hsA : wo.heap.size ≤ wA.heap.size := hmA0.size; replace q0 := cell_kept (w := wo.drew) q0 hmA0 (World.block_lt_of_cell? _ _ q0) (not_nil _); replace q1 := cell_kept (w := wo.drew) q1 hmA0 (World.block_lt_of_cell? _ _ q1) (not_nil _); replace q2 := cell_kept (w := wo.drew) q2 hmA0 (World.block_lt_of_cell? _ _ q2) (not_nil _); replace q3 := cell_kept (w := wo.drew) q3 hmA0 (World.block_lt_of_cell? _ _ q3) (not_nil _); replace q4 := cell_kept (w := wo.drew) q4 hmA0 (World.block_lt_of_cell? _ _ q4) (not_nil _)))
          have hsC := hmC.size
          have hb : Both wD wD.heap.size w.heap.size d bl bm x (D.write i (textOf by8 (min (max N 0) 100).toNat)).1 := Both.ofStep (w := wo) (w1 := wC) (C := C1) (B := B1) hdC hxD hmD (fun j hj => (hC5 j hj).imp id (fun h => by omega)) (fun j hj => hj) hdis (fun j hj => ⟨(hBo j hj).1, by have := hBo j hj; omega⟩) ⟨hsw, by omega⟩ (fun j hj => (hfo j hj).1)
          have hmod : Mod nil w wD := hmC2.new hmD (fun j hj => (hBo j hj).1)
          have HLEN2 : Hid (((D.write i (textOf by8 (min (max N 0) 100).toNat)).1).lasts.length = n) := Lib.hid ((write_length D i _).trans HLEN.out)
          clear q0 q2 q3 q4 hd0 hx0 hm0 hdA hxA hmA hrowA hdB hxB hmB hmB2 hC5 hdB' hdC hxC hmC hmC2 hrowC hxD hmD hhA hhC hdis hfo hBo hnf hnB hfd hfl hfm hmA0 hsA hsB hsC hgA hgC
          obtain ⟨D2, hb, HLEN2⟩ : ∃ D2 : DS, Both _ _ w.heap.size d bl bm x D2 ∧ Hid (D2.lasts.length = n) := ⟨(D.write i (textOf by8 (min (max N 0) 100).toNat)).1, hb, HLEN2⟩
          go_wp2_with fail
          obtain ⟨C6, B6, hd6, hx6, hdis6, _⟩ := hb.ex
          refine (diskRead d bl bm C6 D2 i _ hd6).mono ?_
          rintro e w8 ⟨v8, rfl, hv8, hm8⟩
          have hb8 := hb.modNil hm8
          have hmod8 := hmod.thenNil hm8
          have q18 := cell_kept q1 hm8 (World.block_lt_of_cell? _ _ q1) (not_nil _)
          have hr8 := hv8.row
          clear hv8 hm8 hb hmod hd6 hx6 hdis6 q1
          go_wp2_with fail
          obtain ⟨C7, B7, hd7, hx7, _⟩ := hb8.ex
          refine (refRead x B7 D2 i _ hx7).mono ?_
          rintro e w9 ⟨v9, rfl, hr9, hm9⟩
          have hb9 := (hb8.modNil hm9).modNil (Mod.refl nil w9).drew
          have hb9' := hb8.modNil hm9
          have hmod9 := hmod8.thenNil hm9
          have hr89 := (hr8.modNil hm9).modNil (Mod.refl nil w9).drew
          have hr99 := hr9.modNil (Mod.refl nil w9).drew
          have hdn := hb9'.down
          clear hm9 hb8 hmod8 hd7 hx7 hr8 hr9 q18
          obtain ⟨C9, B9, hd9, hx9, _⟩ := hb9.ex
          have HB9 := Lib.hid hb9'
          have HMOD9 := Lib.hid hmod9
          clear hb9 hb9' hmod9
          go_wp2_with fail
          go_region_held3 (fun w' => w'.cell? ⟨x, 4, none⟩ = some (.bool (D2).down)) (first | exact hdn) (first
            | (go_at_call 13; refine (refBytesSame _ _ _ _ _ _ _ hr89 hr99).mono ?_; rw [show decide (((D2).read i).1 = ((D2).read i).1) = true from by simp]; rintro e w' ⟨rfl, rfl⟩)
            | (go_at_call 14; refine (diskPending d bl bm C9 _ _ hd9).mono ?_; rintro e w' ⟨rfl, rfl⟩)
            | (go_at_call 25; refine (refPending x B9 _ _ hx9).mono ?_; rintro e w' ⟨rfl, rfl⟩)
            | (go_at_call 26; refine (diskDown d bl bm C9 _ _ hd9).mono ?_; rintro e w' ⟨rfl, rfl⟩)
            | (go_at_call 27; refine (diskLen d bl bm C9 _ _ hd9).mono ?_; rw [HLEN2.out]; rintro e w' ⟨rfl, rfl⟩))
          go_wp2_with fail
          exact ⟨⟨k + 1, _, D2, by omega, by go_num, HB9.out.modNil (Mod.refl nil w9).drew, HLEN2.out, HMOD9.out.drew⟩, by simp [intOf]; omega⟩
        · obtain ⟨C1, B1, hd1, hx1, _⟩ := HB.out.ex
          go_wp2_with fail
          refine (diskRead d bl bm C1 D i wo hd1).mono ?_
          rintro e w5 ⟨v5, rfl, hv5, hm5⟩
          have hr5 := hv5.row
          replace q1 := cell_kept q1 hm5 (World.block_lt_of_cell? _ _ q1) (not_nil _)
          have hx5 := hx1.mod hm5 (fun _ _ _ f => f)
          clear q0 q2 q3 q4 hv5 hd1 hx1
          go_wp2_with fail
          refine (refRead x B1 D i w5 hx5).mono ?_
          rintro e w6 ⟨v6, rfl, hr6, hm6⟩
          replace q1 := cell_kept q1 hm6 (World.block_lt_of_cell? _ _ q1) (not_nil _)
          have hr56 := hr5.modNil hm6
          have hb := (HB.out.modNil hm5).modNil hm6
          have hmod := (HMOD.out.thenNil hm5).thenNil hm6
          clear hr5 hx5 hm5 hm6
          have HLEN2 := HLEN
          have HBB := Lib.hid hb
          have HMM := Lib.hid hmod
          clear hb hmod
          go_wp2_with fail
          refine (refBytesSame _ _ _ _ _ _ _ hr56 hr6).mono ?_
          rw [show decide ((D.read i).1 = (D.read i).1) = true from by simp]
          rintro e w7 ⟨rfl, rfl⟩
          have hb := HBB.out
          have hmod := HMM.out
          clear hr56 hr6
          go_wp2_with fail
          obtain ⟨C6, B6, hd6, hx6, hdis6, _⟩ := hb.ex
          refine (diskRead d bl bm C6 D i _ hd6).mono ?_
          rintro e w8 ⟨v8, rfl, hv8, hm8⟩
          have hb8 := hb.modNil hm8
          have hmod8 := hmod.thenNil hm8
          have q18 := cell_kept q1 hm8 (World.block_lt_of_cell? _ _ q1) (not_nil _)
          have hr8 := hv8.row
          clear hv8 hm8 hb hmod hd6 hx6 hdis6 q1
          go_wp2_with fail
          obtain ⟨C7, B7, hd7, hx7, _⟩ := hb8.ex
          refine (refRead x B7 D i _ hx7).mono ?_
          rintro e w9 ⟨v9, rfl, hr9, hm9⟩
          have hb9 := (hb8.modNil hm9).modNil (Mod.refl nil w9).drew
          have hb9' := hb8.modNil hm9
          have hmod9 := hmod8.thenNil hm9
          have hr89 := (hr8.modNil hm9).modNil (Mod.refl nil w9).drew
          have hr99 := hr9.modNil (Mod.refl nil w9).drew
          have hdn := hb9'.down
          clear hm9 hb8 hmod8 hd7 hx7 hr8 hr9 q18
          obtain ⟨C9, B9, hd9, hx9, _⟩ := hb9.ex
          have HB9 := Lib.hid hb9'
          have HMOD9 := Lib.hid hmod9
          clear hb9 hb9' hmod9
          go_wp2_with fail
          go_region_held3 (fun w' => w'.cell? ⟨x, 4, none⟩ = some (.bool (D).down)) (first | exact hdn) (first
            | (go_at_call 13; refine (refBytesSame _ _ _ _ _ _ _ hr89 hr99).mono ?_; rw [show decide (((D).read i).1 = ((D).read i).1) = true from by simp]; rintro e w' ⟨rfl, rfl⟩)
            | (go_at_call 14; refine (diskPending d bl bm C9 _ _ hd9).mono ?_; rintro e w' ⟨rfl, rfl⟩)
            | (go_at_call 25; refine (refPending x B9 _ _ hx9).mono ?_; rintro e w' ⟨rfl, rfl⟩)
            | (go_at_call 26; refine (diskDown d bl bm C9 _ _ hd9).mono ?_; rintro e w' ⟨rfl, rfl⟩)
            | (go_at_call 27; refine (diskLen d bl bm C9 _ _ hd9).mono ?_; rw [HLEN2.out]; rintro e w' ⟨rfl, rfl⟩))
          go_wp2_with fail
          exact ⟨⟨k + 1, _, D, by omega, by go_num, HB9.out.modNil (Mod.refl nil w9).drew, HLEN2.out, HMOD9.out.drew⟩, by simp [intOf]; omega⟩
        · obtain ⟨C1, B1, hd1, hx1, hdis, hfo, hBo⟩ := HB.out.ex
          have hwt := HB.out.top
          have hsw := HMOD.out.size
          have hnf : ∀ j, foot d bl bm C1 j → bo ≠ j := fun j hj => by have := hfo j hj; omega
          have hnB : ∀ j, B1 j → bo ≠ j := fun j hj => by have := hBo j hj; omega
          go_wp2_with fail
          refine (diskSync d bl bm C1 D wo hd1).mono ?_
          rintro e w5 ⟨rfl, hd5, hm5⟩
          have hx5 := hx1.mod hm5 (fun j _ hj h => hdis j (by rcases h with h | h | h; exact .inl h; exact .inr (.inl h); exact .inr (.inr (.inl h))) hj)
          replace q1 := cell_kept q1 hm5 (World.block_lt_of_cell? _ _ q1) (fun h => hnf bo (by rcases h with h | h | h; exact .inl h; exact .inr (.inl h); exact .inr (.inr (.inl h))) rfl)
          have hfd := (hfo d (.inl rfl)).1
          have hfl := (hfo bl (.inr (.inl rfl))).1
          have hfm := (hfo bm (.inr (.inr (.inl rfl)))).1
          have HSP : ∀ j, (j = d ∨ j = bl ∨ j = bm) → w.heap.size ≤ j := fun j hj => by omega
          have HH1 := Lib.hid hd5
          have HH2 := Lib.hid hm5
          clear hd1 hx1 q0 q2 q3 q4 hd5 hm5
          go_wp2_with fail
          refine (refSync x B1 D w5 hx5).mono ?_
          rintro e w6 ⟨rfl, hx6, hm6⟩
          replace q1 := cell_kept q1 hm6 (World.block_lt_of_cell? _ _ q1) (fun h => hnB bo h rfl)
          have hd5 := HH1.out
          have hm5 := HH2.out
          have hb : Both w6 w6.heap.size w.heap.size d bl bm x D.sync.1 := Both.ofStep (w := wo) (w1 := w5) (C := C1) (B := B1) hd5 hx6 hm6 (fun j hj => .inl hj) (fun j hj => .inl hj) hdis (fun j hj => ⟨(hBo j hj).1, by have := hBo j hj; omega⟩) ⟨hsw, hm5.size⟩ (fun j hj => (hfo j hj).1)
          have hmod : Mod nil w w6 := (HMOD.out.new hm5 (fun j hj => HSP j hj)).new hm6 (fun j hj => (hBo j hj).1)
          have HLEN2 : Hid (D.sync.1.lasts.length = n) := Lib.hid ((sync_length D).trans HLEN.out)
          have hb2 := hb
          clear hd5 hm5 hx6 hm6 hx5 hb2 hdis hfo hBo hnf hnB HSP hfd hfl hfm
          go_wp2_with fail
          obtain ⟨C6, B6, hd6, hx6, hdis6, _⟩ := hb.ex
          refine (diskRead d bl bm C6 D.sync.1 i _ hd6).mono ?_
          rintro e w8 ⟨v8, rfl, hv8, hm8⟩
          have hb8 := hb.modNil hm8
          have hmod8 := hmod.thenNil hm8
          have q18 := cell_kept q1 hm8 (World.block_lt_of_cell? _ _ q1) (not_nil _)
          have hr8 := hv8.row
          clear hv8 hm8 hb hmod hd6 hx6 hdis6 q1
          go_wp2_with fail
          obtain ⟨C7, B7, hd7, hx7, _⟩ := hb8.ex
          refine (refRead x B7 D.sync.1 i _ hx7).mono ?_
          rintro e w9 ⟨v9, rfl, hr9, hm9⟩
          have hb9 := (hb8.modNil hm9).modNil (Mod.refl nil w9).drew
          have hb9' := hb8.modNil hm9
          have hmod9 := hmod8.thenNil hm9
          have hr89 := (hr8.modNil hm9).modNil (Mod.refl nil w9).drew
          have hr99 := hr9.modNil (Mod.refl nil w9).drew
          have hdn := hb9'.down
          clear hm9 hb8 hmod8 hd7 hx7 hr8 hr9 q18
          obtain ⟨C9, B9, hd9, hx9, _⟩ := hb9.ex
          have HB9 := Lib.hid hb9'
          have HMOD9 := Lib.hid hmod9
          clear hb9 hb9' hmod9
          go_wp2_with fail
          go_region_held3 (fun w' => w'.cell? ⟨x, 4, none⟩ = some (.bool (D.sync.1).down)) (first | exact hdn) (first
            | (go_at_call 13; refine (refBytesSame _ _ _ _ _ _ _ hr89 hr99).mono ?_; rw [show decide (((D.sync.1).read i).1 = ((D.sync.1).read i).1) = true from by simp]; rintro e w' ⟨rfl, rfl⟩)
            | (go_at_call 14; refine (diskPending d bl bm C9 _ _ hd9).mono ?_; rintro e w' ⟨rfl, rfl⟩)
            | (go_at_call 25; refine (refPending x B9 _ _ hx9).mono ?_; rintro e w' ⟨rfl, rfl⟩)
            | (go_at_call 26; refine (diskDown d bl bm C9 _ _ hd9).mono ?_; rintro e w' ⟨rfl, rfl⟩)
            | (go_at_call 27; refine (diskLen d bl bm C9 _ _ hd9).mono ?_; rw [HLEN2.out]; rintro e w' ⟨rfl, rfl⟩))
          go_wp2_with fail
          exact ⟨⟨k + 1, _, D.sync.1, by omega, by go_num, HB9.out.modNil (Mod.refl nil w9).drew, HLEN2.out, HMOD9.out.drew⟩, by simp [intOf]; omega⟩
        · obtain ⟨C1, B1, hd1, hx1, hdis, hfo, hBo⟩ := HB.out.ex
          have hwt := HB.out.top
          have hsw := HMOD.out.size
          have hnf : ∀ j, foot d bl bm C1 j → bo ≠ j := fun j hj => by have := hfo j hj; omega
          have hnB : ∀ j, B1 j → bo ≠ j := fun j hj => by have := hBo j hj; omega
          have hfd := (hfo d (.inl rfl)).1
          have hfl := (hfo bl (.inr (.inl rfl))).1
          have hfm := (hfo bm (.inr (.inr (.inl rfl)))).1
          have hgd := (hfo d (.inl rfl)).2
          have hgl := (hfo bl (.inr (.inl rfl))).2
          have hgm := (hfo bm (.inr (.inr (.inl rfl)))).2
          have hBx : B1 x := by obtain ⟨_, _, _, _, _, _, _, h, _⟩ := hx1; exact h
          go_wp2_with fail
          refine (diskFuse d bl bm C1 D N wo hd1 HNR.out.2).mono ?_
          rintro e w5 ⟨rfl, hd5, hm5⟩
          have hx5 := hx1.mod hm5 (fun j _ hj h => hdis j (.inl h) hj)
          replace q1 := cell_kept q1 hm5 (World.block_lt_of_cell? _ _ q1) (fun h => hnf bo (.inl h) rfl)
          replace q2 := cell_kept q2 hm5 (World.block_lt_of_cell? _ _ q2) (fun h => hnf bo (.inl h) rfl)
          have HSP : ∀ j, j = d → w.heap.size ≤ j := fun j hj => by omega
          have HH1 := Lib.hid hd5
          have HH2 := Lib.hid hm5
          clear hd1 hx1 q0 q3 q4 hd5 hm5
          go_wp2_with fail
          refine (refFuse x B1 D N w5 hx5 HNR.out.2).mono ?_
          rintro e w6 ⟨rfl, hx6, hm6⟩
          replace q1 := cell_kept q1 hm6 (World.block_lt_of_cell? _ _ q1) (fun h => hnB bo (h ▸ hBx) rfl)
          replace hm6 := hm6.mono (T := B1) (fun j _ e => e ▸ hBx)
          have hd5 := HH1.out
          have hm5 := HH2.out
          have hb : Both w6 w6.heap.size w.heap.size d bl bm x { D with fuse := max N (-1) } := Both.ofStep (w := wo) (w1 := w5) (C := C1) (B := B1) hd5 hx6 hm6 (fun j hj => .inl hj) (fun j hj => .inl hj) hdis (fun j hj => ⟨(hBo j hj).1, by have := hBo j hj; omega⟩) ⟨hsw, hm5.size⟩ (fun j hj => (hfo j hj).1)
          have hmod : Mod nil w w6 := (HMOD.out.new hm5 (fun j hj => HSP j hj)).new hm6 (fun j hj => (hBo j hj).1)
          have HLEN2 : Hid ((DS.mk D.lasts D.pend (max N (-1)) D.down).lasts.length = n) := Lib.hid HLEN.out
          clear q2
          clear hd5 hm5 hx6 hm6 hx5 hdis hfo hBo hnf hnB HSP hfd hfl hfm
          obtain ⟨D2, hb, HLEN2⟩ : ∃ D2 : DS, Both _ _ w.heap.size d bl bm x D2 ∧ Hid (D2.lasts.length = n) := ⟨{ D with fuse := max N (-1) }, hb, HLEN2⟩
          go_wp2_with fail
          obtain ⟨C6, B6, hd6, hx6, hdis6, _⟩ := hb.ex
          refine (diskRead d bl bm C6 D2 i _ hd6).mono ?_
          rintro e w8 ⟨v8, rfl, hv8, hm8⟩
          have hb8 := hb.modNil hm8
          have hmod8 := hmod.thenNil hm8
          have q18 := cell_kept q1 hm8 (World.block_lt_of_cell? _ _ q1) (not_nil _)
          have hr8 := hv8.row
          clear hv8 hm8 hb hmod hd6 hx6 hdis6 q1
          go_wp2_with fail
          obtain ⟨C7, B7, hd7, hx7, _⟩ := hb8.ex
          refine (refRead x B7 D2 i _ hx7).mono ?_
          rintro e w9 ⟨v9, rfl, hr9, hm9⟩
          have hb9 := (hb8.modNil hm9).modNil (Mod.refl nil w9).drew
          have hb9' := hb8.modNil hm9
          have hmod9 := hmod8.thenNil hm9
          have hr89 := (hr8.modNil hm9).modNil (Mod.refl nil w9).drew
          have hr99 := hr9.modNil (Mod.refl nil w9).drew
          have hdn := hb9'.down
          clear hm9 hb8 hmod8 hd7 hx7 hr8 hr9 q18
          obtain ⟨C9, B9, hd9, hx9, _⟩ := hb9.ex
          have HB9 := Lib.hid hb9'
          have HMOD9 := Lib.hid hmod9
          clear hb9 hb9' hmod9
          go_wp2_with fail
          go_region_held3 (fun w' => w'.cell? ⟨x, 4, none⟩ = some (.bool (D2).down)) (first | exact hdn) (first
            | (go_at_call 13; refine (refBytesSame _ _ _ _ _ _ _ hr89 hr99).mono ?_; rw [show decide (((D2).read i).1 = ((D2).read i).1) = true from by simp]; rintro e w' ⟨rfl, rfl⟩)
            | (go_at_call 14; refine (diskPending d bl bm C9 _ _ hd9).mono ?_; rintro e w' ⟨rfl, rfl⟩)
            | (go_at_call 25; refine (refPending x B9 _ _ hx9).mono ?_; rintro e w' ⟨rfl, rfl⟩)
            | (go_at_call 26; refine (diskDown d bl bm C9 _ _ hd9).mono ?_; rintro e w' ⟨rfl, rfl⟩)
            | (go_at_call 27; refine (diskLen d bl bm C9 _ _ hd9).mono ?_; rw [HLEN2.out]; rintro e w' ⟨rfl, rfl⟩))
          go_wp2_with fail
          exact ⟨⟨k + 1, _, D2, by omega, by go_num, HB9.out.modNil (Mod.refl nil w9).drew, HLEN2.out, HMOD9.out.drew⟩, by simp [intOf]; omega⟩
        · obtain ⟨C1, B1, hd1, hx1, hdis, hfo, hBo⟩ := HB.out.ex
          have hwt := HB.out.top
          have hsw := HMOD.out.size
          have hnf : ∀ j, foot d bl bm C1 j → bo ≠ j := fun j hj => by have := hfo j hj; omega
          have hnB : ∀ j, B1 j → bo ≠ j := fun j hj => by have := hBo j hj; omega
          have hfd := (hfo d (.inl rfl)).1
          have hfl := (hfo bl (.inr (.inl rfl))).1
          have hfm := (hfo bm (.inr (.inr (.inl rfl)))).1
          have hgd := (hfo d (.inl rfl)).2
          have hgl := (hfo bl (.inr (.inl rfl))).2
          have hgm := (hfo bm (.inr (.inr (.inl rfl)))).2
          have hrw := HROWK.out.modNil HMOD.out
          go_wp2_with fail
          refine (diskCrash d bl bm C1 (· < w.heap.size) D _ keep wo hd1 hrw ⟨by omega, by omega⟩ (by rw [HNK.out]; exact hkl0)).mono ?_
          rintro e w5 ⟨rfl, hd5, hm5⟩
          have hx5 := hx1.mod hm5 (fun j _ hj h => hdis j (by rcases h with h | h | h; exact .inl h; exact .inr (.inl h); exact .inr (.inr (.inl h))) hj)
          replace q1 := cell_kept q1 hm5 (World.block_lt_of_cell? _ _ q1) (fun h => hnf bo (by rcases h with h | h | h; exact .inl h; exact .inr (.inl h); exact .inr (.inr (.inl h))) rfl)
          replace q4 := cell_kept q4 hm5 (World.block_lt_of_cell? _ _ q4) (fun h => hnf bo (by rcases h with h | h | h; exact .inl h; exact .inr (.inl h); exact .inr (.inr (.inl h))) rfl)
          have hrw5 := hrw.mod hm5 (fun j _ hj h => by rcases h with h | h | h <;> omega)
          have HSP : ∀ j, (j = d ∨ j = bl ∨ j = bm) → w.heap.size ≤ j := fun j hj => by omega
          have HH1 := Lib.hid hd5
          have HH2 := Lib.hid hm5
          clear hd1 hx1 q0 q2 q3 hd5 hm5 hrw
          go_wp2_with fail
          refine (refCrash x B1 (· < w.heap.size) D _ keep w5 hx5 hrw5 (fun j hj hb => by have := hBo j hb; omega) (by rw [HNK.out]; exact hkl0)).mono ?_
          rintro e w6 ⟨rfl, hx6, hm6⟩
          replace q1 := cell_kept q1 hm6 (World.block_lt_of_cell? _ _ q1) (fun h => hnB bo h rfl)
          have hd5 := HH1.out
          have hm5 := HH2.out
          have hb : Both w6 w6.heap.size w.heap.size d bl bm x (D.crash keep) := Both.ofStep (w := wo) (w1 := w5) (C := C1) (B := B1) hd5 hx6 hm6 (fun j hj => .inl hj) (fun j hj => .inl hj) hdis (fun j hj => ⟨(hBo j hj).1, by have := hBo j hj; omega⟩) ⟨hsw, hm5.size⟩ (fun j hj => (hfo j hj).1)
          have hmod : Mod nil w w6 := (HMOD.out.new hm5 (fun j hj => HSP j hj)).new hm6 (fun j hj => (hBo j hj).1)
          have HLEN2 : Hid ((D.crash keep).lasts.length = n) := Lib.hid ((D.layTo_length keep _).trans HLEN.out)
          clear q4 hrw5
          clear hd5 hm5 hx6 hm6 hx5 hdis hfo hBo hnf hnB HSP hfd hfl hfm
          obtain ⟨D2, hb, HLEN2⟩ : ∃ D2 : DS, Both _ _ w.heap.size d bl bm x D2 ∧ Hid (D2.lasts.length = n) := ⟨(D.crash keep), hb, HLEN2⟩
          go_wp2_with fail
          obtain ⟨C6, B6, hd6, hx6, hdis6, _⟩ := hb.ex
          refine (diskRead d bl bm C6 D2 i _ hd6).mono ?_
          rintro e w8 ⟨v8, rfl, hv8, hm8⟩
          have hb8 := hb.modNil hm8
          have hmod8 := hmod.thenNil hm8
          have q18 := cell_kept q1 hm8 (World.block_lt_of_cell? _ _ q1) (not_nil _)
          have hr8 := hv8.row
          clear hv8 hm8 hb hmod hd6 hx6 hdis6 q1
          go_wp2_with fail
          obtain ⟨C7, B7, hd7, hx7, _⟩ := hb8.ex
          refine (refRead x B7 D2 i _ hx7).mono ?_
          rintro e w9 ⟨v9, rfl, hr9, hm9⟩
          have hb9 := (hb8.modNil hm9).modNil (Mod.refl nil w9).drew
          have hb9' := hb8.modNil hm9
          have hmod9 := hmod8.thenNil hm9
          have hr89 := (hr8.modNil hm9).modNil (Mod.refl nil w9).drew
          have hr99 := hr9.modNil (Mod.refl nil w9).drew
          have hdn := hb9'.down
          clear hm9 hb8 hmod8 hd7 hx7 hr8 hr9 q18
          obtain ⟨C9, B9, hd9, hx9, _⟩ := hb9.ex
          have HB9 := Lib.hid hb9'
          have HMOD9 := Lib.hid hmod9
          clear hb9 hb9' hmod9
          go_wp2_with fail
          go_region_held3 (fun w' => w'.cell? ⟨x, 4, none⟩ = some (.bool (D2).down)) (first | exact hdn) (first
            | (go_at_call 13; refine (refBytesSame _ _ _ _ _ _ _ hr89 hr99).mono ?_; rw [show decide (((D2).read i).1 = ((D2).read i).1) = true from by simp]; rintro e w' ⟨rfl, rfl⟩)
            | (go_at_call 14; refine (diskPending d bl bm C9 _ _ hd9).mono ?_; rintro e w' ⟨rfl, rfl⟩)
            | (go_at_call 25; refine (refPending x B9 _ _ hx9).mono ?_; rintro e w' ⟨rfl, rfl⟩)
            | (go_at_call 26; refine (diskDown d bl bm C9 _ _ hd9).mono ?_; rintro e w' ⟨rfl, rfl⟩)
            | (go_at_call 27; refine (diskLen d bl bm C9 _ _ hd9).mono ?_; rw [HLEN2.out]; rintro e w' ⟨rfl, rfl⟩))
          go_wp2_with fail
          exact ⟨⟨k + 1, _, D2, by omega, by go_num, HB9.out.modNil (Mod.refl nil w9).drew, HLEN2.out, HMOD9.out.drew⟩, by simp [intOf]; omega⟩
        · have hb := HB.out
          have hmod := HMOD.out
          have HLEN2 := HLEN
          clear q2 q3 q4
          go_wp2_with fail
          obtain ⟨C6, B6, hd6, hx6, hdis6, _⟩ := hb.ex
          refine (diskRead d bl bm C6 D i _ hd6).mono ?_
          rintro e w8 ⟨v8, rfl, hv8, hm8⟩
          have hb8 := hb.modNil hm8
          have hmod8 := hmod.thenNil hm8
          have q18 := cell_kept q1 hm8 (World.block_lt_of_cell? _ _ q1) (not_nil _)
          have hr8 := hv8.row
          clear hv8 hm8 hb hmod hd6 hx6 hdis6 q1 q0
          go_wp2_with fail
          obtain ⟨C7, B7, hd7, hx7, _⟩ := hb8.ex
          refine (refRead x B7 D i _ hx7).mono ?_
          rintro e w9 ⟨v9, rfl, hr9, hm9⟩
          have hb9 := (hb8.modNil hm9).modNil (Mod.refl nil w9).drew
          have hb9' := hb8.modNil hm9
          have hmod9 := hmod8.thenNil hm9
          have hr89 := (hr8.modNil hm9).modNil (Mod.refl nil w9).drew
          have hr99 := hr9.modNil (Mod.refl nil w9).drew
          have hdn := hb9'.down
          clear hm9 hb8 hmod8 hd7 hx7 hr8 hr9 q18
          obtain ⟨C9, B9, hd9, hx9, _⟩ := hb9.ex
          have HB9 := Lib.hid hb9'
          have HMOD9 := Lib.hid hmod9
          clear hb9 hb9' hmod9
          go_wp2_with fail
          go_region_held3 (fun w' => w'.cell? ⟨x, 4, none⟩ = some (.bool (D).down)) (first | exact hdn) (first
            | (go_at_call 13; refine (refBytesSame _ _ _ _ _ _ _ hr89 hr99).mono ?_; rw [show decide (((D).read i).1 = ((D).read i).1) = true from by simp]; rintro e w' ⟨rfl, rfl⟩)
            | (go_at_call 14; refine (diskPending d bl bm C9 _ _ hd9).mono ?_; rintro e w' ⟨rfl, rfl⟩)
            | (go_at_call 25; refine (refPending x B9 _ _ hx9).mono ?_; rintro e w' ⟨rfl, rfl⟩)
            | (go_at_call 26; refine (diskDown d bl bm C9 _ _ hd9).mono ?_; rintro e w' ⟨rfl, rfl⟩)
            | (go_at_call 27; refine (diskLen d bl bm C9 _ _ hd9).mono ?_; rw [HLEN2.out]; rintro e w' ⟨rfl, rfl⟩))
          go_wp2_with fail
          exact ⟨⟨k + 1, _, D, by omega, by go_num, HB9.out.modNil (Mod.refl nil w9).drew, HLEN2.out, HMOD9.out.drew⟩, by simp [intOf]; omega⟩
      · obtain rfl : k = q := by omega
        go_wp2_with fail
        refine (diskFirst wr).mono ?_
        rintro e w5 ⟨rfl, hm5⟩
        go_wp2_with fail
        go_ret
        exact ⟨rfl, hmod.thenNil hm5⟩
theorem walkDiskPlays (v0 v1 : Value) (W : World) (r0 : Rd W 3 v0) (r1 : Rd W 38 v1) :
    Calls Try.prog 4 #[v0, v1] W fun e w' => e = .returned (.bool true) ∧ Below W.heap.size W w' := by
  obtain ⟨n, rfl, _⟩ := r0.int Try.underlying3
  obtain ⟨l, hl, hn⟩ := r1.dops
  have hll : l.length ≤ 9223372036854775807 := by unfold maxLen at hn; omega
  rcases (show (n < 1 ∨ 8192 < n) ∨ (300 < n ∧ n ≤ 8192) ∨ (1 ≤ n ∧ n ≤ 300) by omega) with h | h | h
  · exact (lawDiskPlays_bad1 n v1 l W hl hll h).mono fun e w' ⟨h1, h2⟩ => ⟨h1, h2.below⟩
  · exact (lawDiskPlays_bad2 n v1 l W hl hll h).mono fun e w' ⟨h1, h2⟩ => ⟨h1, h2.below⟩
  · obtain ⟨n, rfl⟩ := Int.eq_ofNat_of_zero_le (show 0 ≤ n by omega)
    exact (lawDiskPlays n v1 l W hl hll (by omega) (by omega)).mono fun e w' ⟨h1, h2⟩ => ⟨h1, h2.below⟩
end Go.Proofs.Ytgfehfkcjgfekaa

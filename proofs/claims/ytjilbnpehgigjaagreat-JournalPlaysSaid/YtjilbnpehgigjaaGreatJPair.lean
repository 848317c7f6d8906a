/- cfllaw8's operations as an argument; Few. (Printed by wip/tools/gen_jacts.py.) -/
import Derived.Test.YtjilbnpehgigjaaGreatRdB
import Derived.Test.YtjilbnpehgigjaaGreatJLaw
import Derived.Test.YtjilbnpehgigjaaGreatJPlainD
import Derived.Test.YtjilbnpehgigjaaGreatSixOpen
import Derived.Test.YtjilbnpehgigjaaGreatJCompact
import Derived.Test.YtjilbnpehgigjaaGreatRefCrash
namespace Go.Proofs.YtjilbnpehgigjaaGreat
open Go.ChangeShapes Go.WideShapes Go.ChangeAt Go.RowKit
structure OpJ where
  kind : Int
  i : Int
  n : Int
  b : List UInt8
  keep : List Bool
def IsOpJs (S : Nat → Prop) (w : World) (v : Value) (l : List OpJ) : Prop :=
  ∃ p c, v = .slice p l.length c ∧ ∀ i, (hi : i < l.length) → ∃ b off pb nb cb pk nk ck, p = some ⟨b, off, none⟩ ∧ S b ∧ b < w.heap.size ∧ w.cell? ⟨b, off + i * 5, none⟩ = some (.int .i64 l[i].kind) ∧ w.cell? ⟨b, off + i * 5 + 1, none⟩ = some (.int .i64 l[i].i) ∧
    w.cell? ⟨b, off + i * 5 + 2, none⟩ = some (.int .i64 l[i].n) ∧ w.cell? ⟨b, off + i * 5 + 3, none⟩ = some (.slice pb nb cb) ∧ w.cell? ⟨b, off + i * 5 + 4, none⟩ = some (.slice pk nk ck) ∧ nb ≤ cb ∧ cb ≤ maxLen ∧ IsRow S w (.slice pb nb cb) (bys l[i].b) ∧ IsRow S w (.slice pk nk ck) (l[i].keep.map Value.bool)
theorem IsOpJs.modNil {S : Nat → Prop} {w w' : World} {v : Value} {l : List OpJ} (h : IsOpJs S w v l) (m : Mod nil w w') : IsOpJs S w' v l := by
  obtain ⟨p, c, h1, h2⟩ := h
  refine ⟨p, c, h1, fun i hi => ?_⟩
  obtain ⟨b, off, pb, nb, cb, pk, nk, ck, h3, h4, h5, k0, k1, k2, k3, k4, q1, q2, r1, r2⟩ := h2 i hi
  exact ⟨b, off, pb, nb, cb, pk, nk, ck, h3, h4, Nat.lt_of_lt_of_le h5 m.size, cell_kept k0 m h5 (not_nil _), cell_kept k1 m h5 (not_nil _), cell_kept k2 m h5 (not_nil _), cell_kept k3 m h5 (not_nil _), cell_kept k4 m h5 (not_nil _), q1, q2, r1.modNil m, r2.modNil m⟩
set_option maxRecDepth 100000 in
theorem Rd.opsJ {w : World} {v : Value} (h : Rd w 46 v) : ∃ (p : Option Addr) (len cap : Nat) (l : List OpJ), v = .slice p len cap ∧ l.length = len ∧ len ≤ maxLen ∧ IsOpJs (· < w.heap.size) w (.slice p len cap) l ∧ ∀ o ∈ l, o.b.length ≤ maxLen ∧ o.keep.length ≤ maxLen ∧ (-9223372036854775808 ≤ o.n ∧ o.n ≤ 9223372036854775807) ∧ -9223372036854775808 ≤ o.i ∧ o.i ≤ 9223372036854775807 := by
  have hc : Tryz.prog.cellsOf 54 = 5 := by kernel_rfl
  obtain ⟨p, len, cap, rfl, hl, hm, hall⟩ := h.slice Tryz.underlying46 (by omega)
  have : ∀ i, i < len → ∃ x : OpJ, (∃ b off pb nb cb pk nk ck, p = some ⟨b, off, none⟩ ∧ b < w.heap.size ∧ b < w.heap.size ∧ w.cell? ⟨b, off + i * 5, none⟩ = some (.int .i64 x.kind) ∧ w.cell? ⟨b, off + i * 5 + 1, none⟩ = some (.int .i64 x.i) ∧
    w.cell? ⟨b, off + i * 5 + 2, none⟩ = some (.int .i64 x.n) ∧ w.cell? ⟨b, off + i * 5 + 3, none⟩ = some (.slice pb nb cb) ∧ w.cell? ⟨b, off + i * 5 + 4, none⟩ = some (.slice pk nk ck) ∧ nb ≤ cb ∧ cb ≤ maxLen ∧ IsRow (· < w.heap.size) w (.slice pb nb cb) (bys x.b) ∧ IsRow (· < w.heap.size) w (.slice pk nk ck) (x.keep.map Value.bool)) ∧
    x.b.length ≤ maxLen ∧ x.keep.length ≤ maxLen ∧ (-9223372036854775808 ≤ x.n ∧ x.n ≤ 9223372036854775807) ∧ -9223372036854775808 ≤ x.i ∧ x.i ≤ 9223372036854775807 := by
    intro i hi
    obtain ⟨b, off, cs', hp, hb, hlen, hcell, hrc⟩ := hall i hi
    rw [hc] at hlen hcell
    obtain ⟨_, hf⟩ := hrc.struct Tryz.underlying54
    have hi1 : Tryz.prog.cellsOf 3 = 1 := by kernel_rfl
    have hi2 : Tryz.prog.cellsOf 22 = 1 := by kernel_rfl
    have hi3 : Tryz.prog.cellsOf 23 = 1 := by kernel_rfl
    match cs', hlen with
    | [c0, c1, c2, c3, c4], _ =>
      have f0 : Rc w 3 [c0] := by simpa [hi1] using hf 0 _ rfl
      have f1 : Rc w 3 [c1] := by simpa [hi1] using hf 1 _ rfl
      have f2 : Rc w 3 [c2] := by simpa [hi1] using hf 2 _ rfl
      have f3 : Rc w 22 [c3] := by simpa [hi2] using hf 3 _ rfl
      have f4 : Rc w 23 [c4] := by simpa [hi3] using hf 4 _ rfl
      obtain ⟨n0, h0, _⟩ := f0.int Tryz.underlying3
      obtain ⟨n1, h1, hw1⟩ := f1.int Tryz.underlying3
      obtain ⟨n2, h2, hw2⟩ := f2.int Tryz.underlying3
      obtain ⟨pb, nb, cb, bl, h3, hbc, hbm, hbl, hbr⟩ := Rc.bytes Tryz.underlying22 f3
      obtain ⟨pk, nk, ck, kl, h4, hkm, hkl, hkr⟩ := f4.bools
      simp at h0 h1 h2 h3 h4
      subst h0; subst h1; subst h2; subst h3; subst h4
      have hr : -9223372036854775808 ≤ n1 ∧ n1 ≤ 9223372036854775807 := by simpa [Lit.wf, IntKind.min, IntKind.max, IntKind.bits, IntKind.signed] using hw1
      have hr2 : -9223372036854775808 ≤ n2 ∧ n2 ≤ 9223372036854775807 := by simpa [Lit.wf, IntKind.min, IntKind.max, IntKind.bits, IntKind.signed] using hw2
      refine ⟨⟨n0, n1, n2, bl, kl⟩, ⟨b, off, pb, nb, cb, pk, nk, ck, hp, hb, hb, ?_, ?_, ?_, ?_, ?_, hbc, by omega, hbr, hkr⟩, by simp only; omega, by simp only; omega, hr2, hr⟩
      · have h := hcell 0 (by simp); (try dsimp only at h); (try dsimp only); exact h
      · have h := hcell 1 (by simp); (try dsimp only at h); (try dsimp only); exact h
      · have h := hcell 2 (by simp); (try dsimp only at h); (try dsimp only); exact h
      · have h := hcell 3 (by simp); (try dsimp only at h); (try dsimp only); exact h
      · have h := hcell 4 (by simp); (try dsimp only at h); (try dsimp only); exact h
  obtain ⟨l, hlen, hP⟩ := choose_list this
  refine ⟨p, len, cap, l, rfl, hlen, by omega, ⟨p, cap, by rw [hlen], fun i hi => (hP i hi).1⟩, fun x hx => ?_⟩
  obtain ⟨i, hi, rfl⟩ := List.getElem_of_mem hx
  exact (hP i hi).2
def actSum (l : List OpJ) (i : Nat) : Nat := ((l.take i).map (fun o => min o.b.length 20001 + min o.keep.length 20001)).sum
theorem actSum_succ (l : List OpJ) (i : Nat) (h : i < l.length) : actSum l (i + 1) = actSum l i + (min l[i].b.length 20001 + min l[i].keep.length 20001) := by
  unfold actSum
  rw [List.take_succ_eq_append_getElem h, List.map_append, List.sum_append]; simp
theorem actSum_le (l : List OpJ) : ∀ i, actSum l i ≤ 40002 * i
  | 0 => by simp [actSum]
  | i + 1 => by
    have := actSum_le l i
    rcases Nat.lt_or_ge i l.length with h | h
    · rw [actSum_succ l i h]; omega
    · have e : actSum l (i + 1) = actSum l i := by unfold actSum; rw [List.take_of_length_le (by omega), List.take_of_length_le (by omega)]
      omega
theorem actSum_each (l : List OpJ) (h : actSum l l.length ≤ 20000) : ∀ o ∈ l, o.b.length ≤ 20000 := by
  unfold actSum at h
  rw [List.take_length] at h
  intro e he
  have h1 : ∀ (m : List OpJ), e ∈ m → min e.b.length 20001 + min e.keep.length 20001 ≤ (m.map (fun o => min o.b.length 20001 + min o.keep.length 20001)).sum := by
    intro m
    induction m with
    | nil => intro h; cases h
    | cons a m ih =>
      intro hm
      rw [List.map_cons, List.sum_cons]
      rcases List.mem_cons.1 hm with rfl | hm
      · omega
      · have := ih hm; omega
  have := h1 l he
  omega
def fewJ (l : List OpJ) : Bool := decide (l.length ≤ 100) && decide (actSum l (min l.length 100) ≤ 20000)
set_option maxRecDepth 100000 in
set_option maxHeartbeats 2000000 in
theorem jFew (ps : Option Addr) (len cs : Nat) (l : List OpJ) (w : World) (S0 : Nat → Prop) (hl : IsOpJs S0 w (.slice ps len cs) l) (hm : len ≤ 9223372036854775807) (hb : ∀ o ∈ l, o.b.length ≤ maxLen ∧ o.keep.length ≤ maxLen) :
    Calls Tryz.prog 16 #[.slice ps len cs] w fun e w' => e = .returned (.bool (fewJ l)) ∧ Mod nil w w' := by
  refine (?_ : ∀ Post : Ending → World → Prop, Hid (∀ e w', (e = .returned (.bool (fewJ l)) ∧ Mod nil w w') → Post e w') → Calls Tryz.prog 16 #[.slice ps len cs] w Post) _ (Lib.hid (fun _ _ h => h))
  intro Post HPOST
  have hll : l.length = len := by obtain ⟨_, _, h, _⟩ := hl; simp only [Value.slice.injEq] at h; exact h.2.1.symm
  have HLL := Lib.hid hll
  have HL := Lib.hid hl
  have HB := Lib.hid hb
  clear hl hll hb
  go_enter Tryz.func16, Tryz.ntmps16
  go_wp2_with fail
  go_loopw [3, 4] (fun v3 v4 wr => ∃ i s : Nat, i ≤ len ∧ i ≤ 100 ∧ v4 = .int .i64 i ∧ v3 = .int .i64 s ∧ Hid (actSum l i = s) ∧ ∃ k, wr = w.drewN k) (fun _ v _ => 100 - (intOf v).toNat)
  case atStart => exact ⟨0, 0, by omega, by omega, rfl, rfl, Lib.hid (by simp [actSum]), 0, rfl⟩
  case round =>
    obtain ⟨i, s, hi, hi50, rfl, rfl, HS, kd, rfl⟩ := hrel
    have hsb : s ≤ 4000200 := by rw [← HS.out]; have := actSum_le l i; omega
    by_cases hlt : i < len ∧ i < 100
    · obtain ⟨hlt1, hlt2⟩ := hlt
      have hil : i < l.length := by rw [HLL.out]; exact hlt1
      obtain ⟨_, _, he, hcc⟩ := HL.out
      simp only [Value.slice.injEq] at he
      obtain ⟨rfl, -, -⟩ := he
      obtain ⟨b, off, pb, nb, cb, pk, nk, ck, rfl, -, hbw, k0, k1, k2, k3, k4, -, -, r1, r2⟩ := hcc i hil
      have hsu := actSum_succ l i hil
      have hbx := HB.out _ (List.getElem_mem hil)
      obtain ⟨o, ho⟩ : ∃ o, l[i] = o := ⟨_, rfl⟩
      rw [ho] at r1 r2 hsu hbx
      have hnb : nb = o.b.length := by obtain ⟨_, _, h, _⟩ := r1; simp only [Value.slice.injEq, bys_length] at h; exact h.2.1
      have hnk : nk = o.keep.length := by obtain ⟨_, _, h, _⟩ := r2; simp only [Value.slice.injEq, List.length_map] at h; exact h.2.1
      rw [← hnb, ← hnk] at hbx
      rw [← hnb, ← hnk] at hsu
      unfold maxLen at hbx
      obtain ⟨hb1, hb2⟩ := hbx
      obtain ⟨x, hx⟩ : ∃ x : Nat, min nb 20001 = x := ⟨_, rfl⟩
      obtain ⟨z, hz⟩ : ∃ z : Nat, min nk 20001 = z := ⟨_, rfl⟩
      have hx1 : x ≤ 20001 := by omega
      have hz1 : z ≤ 20001 := by omega
      have hmin1 : min (nb : Int) 20001 = (x : Int) := by omega
      have hmin2 : min (nk : Int) 20001 = (z : Int) := by omega
      rw [hx, hz, HS.out] at hsu
      have HSU : Hid (actSum l (i + 1) = s + x + z) := Lib.hid (by omega)
      have had1 : IntKind.i64.wrap ((s : Int) + (x : Int)) = (s : Int) + (x : Int) := by rw [IntKind.wrap_i64]; omega
      have had2 : IntKind.i64.wrap ((s : Int) + (x : Int) + (z : Int)) = ((s + x + z : Nat) : Int) := by rw [IntKind.wrap_i64]; omega
      clear r1 r2 hsu ho hx hz hnb hnk k0 k1 k2 hcc
      go_wp2_with fail
      go_quiet (fail)
      go_wp2_with fail
      exact ⟨⟨i + 1, s + x + z, by omega, by omega, by go_num, rfl, HSU, _, rfl⟩, by simp [intOf]; omega⟩
    · have hge : 100 ≤ i ∨ len ≤ i := by omega
      have hmin : min l.length 100 = i := by rw [HLL.out]; omega
      have HF : Hid (fewJ l = (decide (len ≤ 100) && decide ((s : Int) ≤ 20000))) := Lib.hid (by unfold fewJ; rw [hmin, HS.out, HLL.out]; congr 1; rw [decide_eq_decide]; omega)
      have HE : Hid (Post (.returned (.bool (decide (len ≤ 100) && decide ((s : Int) ≤ 20000)))) (w.drewN kd)) := Lib.hid (HPOST.out _ _ ⟨by rw [HF.out], (Mod.refl nil w).drewN kd⟩)
      clear hmin HF
      rcases (show i < len ∨ (¬ i < len) by omega) with h1 | h1
      all_goals rcases (show (len ≤ 100) ∨ (¬ len ≤ 100) by omega) with h2 | h2
      all_goals (first | (exfalso; omega) | skip)
      all_goals
        (first | rw [decide_eq_true h2, Bool.true_and] at HE | rw [decide_eq_false h2, Bool.false_and] at HE)
        have h3 : (100 < (len : Int)) ∨ ((len : Int) ≤ 100) := by omega
        clear hlt
        go_wp2_with fail
        exact HE.out
end Go.Proofs.YtjilbnpehgigjaaGreat

/- Two journals, the program's and the reference's, each over a disk of its own, side by side. -/
namespace Go.Proofs.YtjilbnpehgigjaaGreat
open Go.RowKit
theorem JS.compacts_ok {s : JS} {d : DS} {b : List UInt8} (hs : s.Ok (d.lasts.length / 2)) : (s.compacts d b).1.Ok ((s.compacts d b).2.1.lasts.length / 2) := by
  obtain ⟨⟨a1, a2, a3, a4⟩, a5, a6⟩ := id hs
  unfold JS.compacts
  generalize (if s.gen < 4294967295 then s.gen + 1 else 4294967295) = G1
  split
  · exact hs
  split
  · exact hs
  split
  · exact hs
  rename_i _ hb hr
  split
  · rw [DS.lays_len]
    refine ⟨⟨by simp only; omega, by simp only; omega, by simp, ?_⟩, by simp only; omega, fun r h => by simp at h⟩
    simp only; omega
  · rw [DS.lays_len]; exact hs
/-- both, in a world; their own blocks are in G -/
structure Two (G : Nat → Prop) (w : World) (jb tb db bl bm : Nat) (s1 : JS) (D1 : DS) (xb yb : Nat) (s2 : JS) (D2 : DS) : Prop where
  ex : ∃ P R, IsJD P w jb tb db bl bm s1 D1 ∧ IsRJD R w xb yb s2 D2 ∧ (∀ k, P k → G k ∧ k < w.heap.size) ∧ (∀ k, R k → G k ∧ k < w.heap.size ∧ ¬ P k ∧ k ≠ tb) ∧ G tb
  ok1 : s1.Ok (D1.lasts.length / 2)
  ok2 : s2.Ok (D2.lasts.length / 2)
theorem Two.mono {G H : Nat → Prop} {w : World} {jb tb db bl bm xb yb : Nat} {s1 s2 : JS} {D1 D2 : DS} (h : Two G w jb tb db bl bm s1 D1 xb yb s2 D2) (hg : ∀ k, k < w.heap.size → G k → H k) : Two H w jb tb db bl bm s1 D1 xb yb s2 D2 := by
  obtain ⟨P, R, h1, h2, h3, h4, h5⟩ := h.ex
  exact ⟨⟨P, R, h1, h2, fun k hk => ⟨hg k (h3 k hk).2 (h3 k hk).1, (h3 k hk).2⟩, fun k hk => ⟨hg k (h4 k hk).2.1 (h4 k hk).1, (h4 k hk).2⟩, hg tb h1.tab.lt h5⟩, h.ok1, h.ok2⟩
theorem Two.modNil {G : Nat → Prop} {w w' : World} {jb tb db bl bm xb yb : Nat} {s1 s2 : JS} {D1 D2 : DS} (h : Two G w jb tb db bl bm s1 D1 xb yb s2 D2) (m : Mod nil w w') : Two G w' jb tb db bl bm s1 D1 xb yb s2 D2 := by
  obtain ⟨P, R, h1, h2, h3, h4, h5⟩ := h.ex
  have hs := m.size
  exact ⟨⟨P, R, h1.modNil m, h2.modNil m, fun k hk => ⟨(h3 k hk).1, Nat.lt_of_lt_of_le (h3 k hk).2 hs⟩, fun k hk => ⟨(h4 k hk).1, Nat.lt_of_lt_of_le (h4 k hk).2.1 hs, (h4 k hk).2.2⟩, h5⟩, h.ok1, h.ok2⟩
/-- the program's side has made a step -/
theorem Two.left {G : Nat → Prop} {w w' : World} {jb jb' tb db bl bm xb yb : Nat} {s2 s' : JS} {s1 : JS} {D1 D2 D' : DS} {P R T : Nat → Prop} (h1 : IsJD P w jb tb db bl bm s1 D1) (h2 : IsRJD R w xb yb s2 D2) (h3 : ∀ k, P k → G k ∧ k < w.heap.size) (h4 : ∀ k, R k → G k ∧ k < w.heap.size ∧ ¬ P k ∧ k ≠ tb) (h5 : G tb)
    (ok2 : s2.Ok (D2.lasts.length / 2)) (hok : s'.Ok (D'.lasts.length / 2)) (j' : IsJD (fun k => P k ∨ w.heap.size ≤ k) w' jb' tb db bl bm s' D') (m : Mod T w w') (hT : ∀ k, k < w.heap.size → T k → P k ∨ k = tb) :
    Two (fun k => G k ∨ w.heap.size ≤ k) w' jb' tb db bl bm s' D' xb yb s2 D2 ∧ Mod G w w' := by
  have hs := m.size
  have htw := h1.tab.lt
  obtain ⟨S, C, q1, q2, q3, q4⟩ := j'.ex
  refine ⟨⟨⟨fun k => (P k ∨ w.heap.size ≤ k) ∧ k < w'.heap.size, R, ⟨j'.tab, S, C, q1, q2, q3, fun k hk => ⟨⟨(q4 k hk).1, (q4 k hk).2.2⟩, (q4 k hk).2⟩⟩, h2.mod m (fun k hk hR hTk => ?_), fun k hk => ⟨?_, hk.2⟩, fun k hk => ⟨.inl (h4 k hk).1, Nat.lt_of_lt_of_le (h4 k hk).2.1 hs, fun hp => ?_, (h4 k hk).2.2.2⟩, (.inl h5)⟩, hok, ok2⟩, m.mono (fun k hk hTk => ?_)⟩
  · rcases hT k hk hTk with h | h
    · exact (h4 k hR).2.2.1 h
    · exact (h4 k hR).2.2.2 h
  · rcases hk.1 with h | h
    · exact .inl (h3 k h).1
    · exact .inr h
  · rcases hp.1 with h | h
    · exact (h4 k hk).2.2.1 h
    · have := (h4 k hk).2.1; omega
  · rcases hT k hk hTk with h | h
    · exact (h3 k h).1
    · rw [h]; exact h5
/-- the reference's side has made a step -/
theorem Two.right {G : Nat → Prop} {w w' : World} {jb tb db bl bm xb' yb : Nat} {s1 s' : JS} {D1 D' : DS} {P R T : Nat → Prop} (h1 : IsJD P w jb tb db bl bm s1 D1) (h3 : ∀ k, P k → G k ∧ k < w.heap.size) (h4 : ∀ k, R k → G k ∧ k < w.heap.size ∧ ¬ P k ∧ k ≠ tb) (h5 : G tb)
    (ok1 : s1.Ok (D1.lasts.length / 2)) (hok : s'.Ok (D'.lasts.length / 2)) (j' : IsRJD (fun k => R k ∨ w.heap.size ≤ k) w' xb' yb s' D') (m : Mod T w w') (hT : ∀ k, k < w.heap.size → T k → R k) :
    Two (fun k => G k ∨ w.heap.size ≤ k) w' jb tb db bl bm s1 D1 xb' yb s' D' ∧ Mod G w w' := by
  have hs := m.size
  have htw := h1.tab.lt
  obtain ⟨S, B, q1, q2, q3, q4⟩ := j'
  refine ⟨⟨⟨P, fun k => (R k ∨ w.heap.size ≤ k) ∧ k < w'.heap.size, h1.mod m (fun k hk hp hTk => ?_), ⟨S, B, q1, q2, q3, fun k hk => ⟨⟨(q4 k hk).1, (q4 k hk).2⟩, (q4 k hk).2⟩⟩, fun k hk => ⟨.inl (h3 k hk).1, Nat.lt_of_lt_of_le (h3 k hk).2 hs⟩, fun k hk => ⟨?_, hk.2, fun hp => ?_, fun e => ?_⟩, (.inl h5)⟩, ok1, hok⟩, m.mono (fun k hk hTk => (h4 k (hT k hk hTk)).1)⟩
  · have hR := h4 k (hT k hk hTk)
    rcases hp with h | h
    · exact hR.2.2.1 h
    · exact hR.2.2.2 h
  · rcases hk.1 with h | h
    · exact .inl (h4 k h).1
    · exact .inr h
  · rcases hk.1 with h | h
    · exact (h4 k h).2.2.1 hp
    · have := (h3 k hp).2; omega
  · rcases hk.1 with h | h
    · exact (h4 k h).2.2.2 e
    · omega
end Go.Proofs.YtjilbnpehgigjaaGreat

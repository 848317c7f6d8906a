/- cfllaw23's operations as an argument; Few; cflref22.Same; Crash and Fuse. (Printed by wip/tools/gen_diaryops.py.) -/
import Derived.Test.YtdfahddpkkeldaaGreatShort
import Derived.Test.YtdfahddpkkeldaaGreatJLaysB
import Derived.Test.YtdfahddpkkeldaaGreatDiskC
import Derived.Test.YtdfahddpkkeldaaGreatJLaw
import Derived.Test.YtdfahddpkkeldaaGreatDiaryLaw
import Derived.Test.YtdfahddpkkeldaaGreatRcB
import Derived.Test.YtdfahddpkkeldaaGreatExport
set_option linter.unusedSimpArgs false
set_option linter.unusedVariables false
namespace Go.Proofs.YtdfahddpkkeldaaGreat
open Go.ChangeShapes Go.WideShapes Go.ChangeAt Go.RowKit
structure OpY where
 kind : Int
 n : Int
 e : En
 keep : List Bool
def IsOps (S : Nat → Prop) (w : World) (v : Value) (l : List OpY) : Prop :=
 ∃ p c, v = .slice p l.length c ∧ ∀ i, (hi : i < l.length) → ∃ b off pb nb cb pk nk ck, p = some ⟨b, off, none⟩ ∧ S b ∧ b < w.heap.size ∧ w.cell? ⟨b, off + i * 5, none⟩ = some (.int .i64 l[i].kind) ∧ w.cell? ⟨b, off + i * 5 + 1, none⟩ = some (.int .i64 l[i].n) ∧
  w.cell? ⟨b, off + i * 5 + 2, none⟩ = some (.int .i64 l[i].e.k) ∧ w.cell? ⟨b, off + i * 5 + 3, none⟩ = some (.slice pb nb cb) ∧ w.cell? ⟨b, off + i * 5 + 4, none⟩ = some (.slice pk nk ck) ∧ IsRow S w (.slice pb nb cb) (bys l[i].e.b) ∧ IsRow S w (.slice pk nk ck) (l[i].keep.map Value.bool)
theorem IsOps.modNil {S : Nat → Prop} {w w' : World} {v : Value} {l : List OpY} (h : IsOps S w v l) (m : Mod nil w w') : IsOps S w' v l := by
 obtain ⟨p, c, h1, h2⟩ := h
 refine ⟨p, c, h1, fun i hi => ?_⟩
 obtain ⟨b, off, pb, nb, cb, pk, nk, ck, h3, h4, h5, k0, k1, k2, k3, k4, r1, r2⟩ := h2 i hi
 exact ⟨b, off, pb, nb, cb, pk, nk, ck, h3, h4, Nat.lt_of_lt_of_le h5 m.size, cell_kept k0 m h5 (not_nil _), cell_kept k1 m h5 (not_nil _), cell_kept k2 m h5 (not_nil _), cell_kept k3 m h5 (not_nil _), cell_kept k4 m h5 (not_nil _), r1.modNil m, r2.modNil m⟩
set_option maxRecDepth 100000 in
theorem Rc.entry {w : World} {cs : List Value} (h : Rc w 42 cs) : ∃ (k : Int) (p : Option Addr) (len cap : Nat) (l : List UInt8), cs = [.int .i64 k, .slice p len cap] ∧ l.length = len ∧ len ≤ maxLen ∧ IsRow (· < w.heap.size) w (.slice p len cap) (bys l) := by
 have hc : Tryz.prog.cellsOf 42 = 2 := by kernel_rfl
 obtain ⟨hlen, hf⟩ := h.struct Tryz.underlying42
 rw [hc] at hlen
 have hi1 : Tryz.prog.cellsOf 3 = 1 := by kernel_rfl
 have hi2 : Tryz.prog.cellsOf 40 = 1 := by kernel_rfl
 match cs, hlen with
 | [c0, c1], _ =>
  have f0 : Rc w 3 [c0] := by simpa [hi1] using hf 0 _ rfl
  have f1 : Rc w 40 [c1] := by simpa [hi2] using hf 1 _ rfl
  obtain ⟨n0, h0, _⟩ := f0.int Tryz.underlying3
  obtain ⟨p1, l1, c1', bl, h1, h2, h3, h4, h5⟩ := f1.bytes Tryz.underlying40
  simp at h0 h1
  subst h0; subst h1
  exact ⟨n0, p1, l1, c1', bl, rfl, h4, by omega, h5⟩
set_option maxRecDepth 100000 in
theorem Rd.opsY {w : World} {v : Value} (h : Rd w 22 v) : ∃ (p : Option Addr) (len cap : Nat) (l : List OpY), v = .slice p len cap ∧ l.length = len ∧ len ≤ maxLen ∧ IsOps (· < w.heap.size) w (.slice p len cap) l ∧ ∀ o ∈ l, o.e.b.length ≤ maxLen ∧ o.keep.length ≤ maxLen ∧ -9223372036854775808 ≤ o.n ∧ o.n ≤ 9223372036854775807 := by
 have hc : Tryz.prog.cellsOf 45 = 5 := by kernel_rfl
 obtain ⟨p, len, cap, rfl, hl, hm, hall⟩ := h.slice Tryz.underlying22 (by omega)
 have : ∀ i, i < len → ∃ x : OpY, (∃ b off pb nb cb pk nk ck, p = some ⟨b, off, none⟩ ∧ b < w.heap.size ∧ b < w.heap.size ∧ w.cell? ⟨b, off + i * 5, none⟩ = some (.int .i64 x.kind) ∧ w.cell? ⟨b, off + i * 5 + 1, none⟩ = some (.int .i64 x.n) ∧
  w.cell? ⟨b, off + i * 5 + 2, none⟩ = some (.int .i64 x.e.k) ∧ w.cell? ⟨b, off + i * 5 + 3, none⟩ = some (.slice pb nb cb) ∧ w.cell? ⟨b, off + i * 5 + 4, none⟩ = some (.slice pk nk ck) ∧ IsRow (· < w.heap.size) w (.slice pb nb cb) (bys x.e.b) ∧ IsRow (· < w.heap.size) w (.slice pk nk ck) (x.keep.map Value.bool)) ∧
  x.e.b.length ≤ maxLen ∧ x.keep.length ≤ maxLen ∧ -9223372036854775808 ≤ x.n ∧ x.n ≤ 9223372036854775807 := by
  intro i hi
  obtain ⟨b, off, cs', hp, hb, hlen, hcell, hrc⟩ := hall i hi
  rw [hc] at hlen hcell
  obtain ⟨_, hf⟩ := hrc.struct Tryz.underlying45
  have hi1 : Tryz.prog.cellsOf 3 = 1 := by kernel_rfl
  have hi2 : Tryz.prog.cellsOf 42 = 2 := by kernel_rfl
  have hi3 : Tryz.prog.cellsOf 43 = 1 := by kernel_rfl
  match cs', hlen with
  | [c0, c1, c2, c3, c4], _ =>
   have f0 : Rc w 3 [c0] := by simpa [hi1] using hf 0 _ rfl
   have f1 : Rc w 3 [c1] := by simpa [hi1] using hf 1 _ rfl
   have f2 : Rc w 42 [c2, c3] := by simpa [hi2] using hf 2 _ rfl
   have f3 : Rc w 43 [c4] := by simpa [hi3] using hf 3 _ rfl
   obtain ⟨n0, h0, _⟩ := f0.int Tryz.underlying3
   obtain ⟨n1, h1, hw1⟩ := f1.int Tryz.underlying3
   obtain ⟨kz, pb, nb, cb, bl, h2, hbl, hbm, hbr⟩ := f2.entry
   obtain ⟨pk, nk, ck, kl, h3, hkm, hkl, hkr⟩ := f3.bools
   simp at h0 h1 h2 h3
   subst h0; subst h1; subst h3
   obtain ⟨rfl, rfl⟩ := h2
   have hr : -9223372036854775808 ≤ n1 ∧ n1 ≤ 9223372036854775807 := by simpa [Lit.wf, IntKind.min, IntKind.max, IntKind.bits, IntKind.signed] using hw1
   refine ⟨⟨n0, n1, ⟨kz, bl⟩, kl⟩, ⟨b, off, pb, nb, cb, pk, nk, ck, hp, hb, hb, ?_, ?_, ?_, ?_, ?_, hbr, hkr⟩, by simp only; omega, by simp only; omega, hr⟩
   ·have h := hcell 0 (by simp); (try dsimp only at h); (try dsimp only); exact h
   ·have h := hcell 1 (by simp); (try dsimp only at h); (try dsimp only); exact h
   ·have h := hcell 2 (by simp); (try dsimp only at h); (try dsimp only); exact h
   ·have h := hcell 3 (by simp); (try dsimp only at h); (try dsimp only); exact h
   ·have h := hcell 4 (by simp); (try dsimp only at h); (try dsimp only); exact h
 obtain ⟨l, hlen, hP⟩ := choose_list this
 refine ⟨p, len, cap, l, rfl, hlen, by omega, ⟨p, cap, by rw [hlen], fun i hi => (hP i hi).1⟩, fun x hx => ?_⟩
 obtain ⟨i, hi, rfl⟩ := List.getElem_of_mem hx
 exact (hP i hi).2
def opSum (l : List OpY) (i : Nat) : Nat := ((l.take i).map (fun o => min o.e.b.length 50001 + min o.keep.length 50001)).sum
theorem opSum_succ (l : List OpY) (i : Nat) (h : i < l.length) : opSum l (i + 1) = opSum l i + (min l[i].e.b.length 50001 + min l[i].keep.length 50001) := by
 unfold opSum
 rw [List.take_succ_eq_append_getElem h, List.map_append, List.sum_append]; simp
theorem opSum_le (l : List OpY) : ∀ i, opSum l i ≤ 100002 * i
  | 0 => by simp [opSum]
  | i + 1 => by
    have := opSum_le l i
    rcases Nat.lt_or_ge i l.length with h | h
    · rw [opSum_succ l i h]; omega
    · have e : opSum l (i + 1) = opSum l i := by unfold opSum; rw [List.take_of_length_le (by omega), List.take_of_length_le (by omega)]
      omega
def fewY (l : List OpY) : Bool := decide (l.length ≤ 100) && decide (opSum l (min l.length 100) ≤ 50000)
set_option maxRecDepth 100000 in
set_option maxHeartbeats 2000000 in
theorem yFew (ps : Option Addr) (len cs : Nat) (l : List OpY) (w : World) (hl : IsOps (· < w.heap.size) w (.slice ps len cs) l) (hm : len ≤ 9223372036854775807) (hb : ∀ o ∈ l, o.e.b.length ≤ maxLen ∧ o.keep.length ≤ maxLen) :
  Calls Tryz.prog 5 #[.slice ps len cs] w fun e w' => e = .returned (.bool (fewY l)) ∧ Mod nil w w' := by
 refine (?_ : ∀ Post : Ending → World → Prop, Hid (∀ e w', (e = .returned (.bool (fewY l)) ∧ Mod nil w w') → Post e w') → Calls Tryz.prog 5 #[.slice ps len cs] w Post) _ (Lib.hid (fun _ _ h => h))
 intro Post HPOST
 have hll : l.length = len := by obtain ⟨_, _, h, _⟩ := hl; simp only [Value.slice.injEq] at h; exact h.2.1.symm
 have HLL := Lib.hid hll
 have HL := Lib.hid hl
 have HB := Lib.hid hb
 clear hl hll hb
 go_enter Tryz.func5, Tryz.ntmps5
 go_wp2_with fail
 go_loopw [3, 4] (fun v3 v4 wr => ∃ i s : Nat, i ≤ len ∧ i ≤ 100 ∧ v4 = .int .i64 i ∧ v3 = .int .i64 s ∧ Hid (opSum l i = s) ∧ ∃ k, wr = w.drewN k) (fun _ v _ => 100 - (intOf v).toNat)
 case atStart => exact ⟨0, 0, by omega, by omega, rfl, rfl, Lib.hid (by simp [opSum]), 0, rfl⟩
 case round =>
  obtain ⟨i, s, hi, hi50, rfl, rfl, HS, kd, rfl⟩ := hrel
  have hsb : s ≤ 10000200 := by rw [← HS.out]; have := opSum_le l i; omega
  by_cases hlt : i < len ∧ i < 100
  ·obtain ⟨hlt1, hlt2⟩ := hlt
   have hil : i < l.length := by rw [HLL.out]; exact hlt1
   obtain ⟨_, _, he, hcc⟩ := HL.out
   simp only [Value.slice.injEq] at he
   obtain ⟨rfl, -, -⟩ := he
   obtain ⟨b, off, pb, nb, cb, pk, nk, ck, rfl, -, hbw, k0, k1, k2, k3, k4, r1, r2⟩ := hcc i hil
   have hsu := opSum_succ l i hil
   have hbx := HB.out _ (List.getElem_mem hil)
   obtain ⟨o, ho⟩ : ∃ o, l[i] = o := ⟨_, rfl⟩
   rw [ho] at r1 r2 hsu hbx
   have hnb : nb = o.e.b.length := by obtain ⟨_, _, h, _⟩ := r1; simp only [Value.slice.injEq, bys_length] at h; exact h.2.1
   have hnk : nk = o.keep.length := by obtain ⟨_, _, h, _⟩ := r2; simp only [Value.slice.injEq, List.length_map] at h; exact h.2.1
   rw [← hnb, ← hnk] at hbx
   rw [← hnb, ← hnk] at hsu
   unfold maxLen at hbx
   obtain ⟨hb1, hb2⟩ := hbx
   obtain ⟨x, hx⟩ : ∃ x : Nat, min nb 50001 = x := ⟨_, rfl⟩
   obtain ⟨z, hz⟩ : ∃ z : Nat, min nk 50001 = z := ⟨_, rfl⟩
   have hx1 : x ≤ 50001 := by omega
   have hz1 : z ≤ 50001 := by omega
   have hmin1 : min (nb : Int) 50001 = (x : Int) := by omega
   have hmin2 : min (nk : Int) 50001 = (z : Int) := by omega
   rw [hx, hz, HS.out] at hsu
   have HSU : Hid (opSum l (i + 1) = s + x + z) := Lib.hid (by omega)
   have had1 : IntKind.i64.wrap ((s : Int) + (x : Int)) = (s : Int) + (x : Int) := by rw [IntKind.wrap_i64]; omega
   have had2 : IntKind.i64.wrap ((s : Int) + (x : Int) + (z : Int)) = ((s + x + z : Nat) : Int) := by rw [IntKind.wrap_i64]; omega
   clear r1 r2 hsu ho hx hz hnb hnk k0 k1 k2 hcc
   go_wp2_with fail
   go_quiet (fail)
   go_wp2_with fail
   exact ⟨⟨i + 1, s + x + z, by omega, by omega, by go_num, rfl, HSU, _, rfl⟩, by simp [intOf]; omega⟩
  ·have hge : 100 ≤ i ∨ len ≤ i := by omega
   have hmin : min l.length 100 = i := by rw [HLL.out]; omega
   have HF : Hid (fewY l = (decide (len ≤ 100) && decide ((s : Int) ≤ 50000))) := Lib.hid (by unfold fewY; rw [hmin, HS.out, HLL.out]; congr 1; rw [decide_eq_decide]; omega)
   have HE : Hid (Post (.returned (.bool (decide (len ≤ 100) && decide ((s : Int) ≤ 50000)))) (w.drewN kd)) := Lib.hid (HPOST.out _ _ ⟨by rw [HF.out], (Mod.refl nil w).drewN kd⟩)
   clear hmin HF
   rcases (show i < len ∨ (¬ i < len) by omega) with h1 | h1
   all_goals rcases (show (len ≤ 100) ∨ (¬ len ≤ 100) by omega) with h2 | h2
   all_goals (first | (exfalso; omega) | skip)
   all_goals
    (first | rw [decide_eq_true h2, Bool.true_and] at HE | rw [decide_eq_false h2, Bool.false_and] at HE)
    have h3 : (100 < (len : Int)) ∨ ((len : Int) ≤ 100) := by omega
    clear hlt
    go_wp2_with fail
    exact HE.out
set_option maxHeartbeats 2000000 in
theorem refSameEnts (S T : Nat → Prop) (pa pb : Option Addr) (na ca nb cb : Nat) (la lb : List En) (w : World) (ha : IsEns S w (.slice pa na ca) la) (hb : IsEns T w (.slice pb nb cb) lb) (hm : na ≤ 1000000) :
  Calls Tryz.prog 22 #[.slice pa na ca, .slice pb nb cb] w fun e w' => e = .returned (.bool (decide (la = lb))) ∧ Mod nil w w' := by
 refine (?_ : ∀ Post : Ending → World → Prop, Hid (∀ e w', (e = .returned (.bool (decide (la = lb))) ∧ Mod nil w w') → Post e w') → Calls Tryz.prog 22 #[.slice pa na ca, .slice pb nb cb] w Post) _ (Lib.hid (fun _ _ h => h))
 intro Post HPOST
 have hla : la.length = na := by obtain ⟨_, _, h⟩ := ha.form; simp only [Value.slice.injEq] at h; exact h.2.1.symm
 have hlb : lb.length = nb := by obtain ⟨_, _, h⟩ := hb.form; simp only [Value.slice.injEq] at h; exact h.2.1.symm
 by_cases hnm : na = nb
 ·subst hnm
  have HA := Lib.hid ha
  have HB := Lib.hid hb
  have HLA := Lib.hid hla
  have HLB := Lib.hid hlb
  have hne : ((na : Int) != (na : Int)) = false := by simp
  clear ha hb hla hlb
  go_enter Tryz.func22, Tryz.ntmps22
  go_wp2_with fail
  clear hne
  go_loopw [5] (fun v wr => ∃ i : Nat, i ≤ na ∧ v = .int .i64 i ∧ Hid (la.take i = lb.take i) ∧ Hid (Mod nil w wr)) (fun v _ => na - (intOf v).toNat)
  case atStart => exact ⟨0, by omega, rfl, Lib.hid (by simp), Lib.hid (Mod.refl _ _)⟩
  case round =>
   obtain ⟨i, hi, rfl, HTK, HM⟩ := hrel
   by_cases hlt : i < na
   ·have hia : i < la.length := by rw [HLA.out]; exact hlt
    have hib : i < lb.length := by rw [HLB.out]; exact hlt
    obtain ⟨ba, oa, va, rfl, -, hal, k0, k1, hxa⟩ := (HA.out.modNil HM.out).at i hia
    obtain ⟨bb, ob, vb, rfl, -, hbl, q0, q1, hxb⟩ := (HB.out.modNil HM.out).at i hib
    have HTA : Hid (la.take (i + 1) = la.take i ++ [la[i]]) := Lib.hid (List.take_succ_eq_append_getElem hia)
    have HTB : Hid (lb.take (i + 1) = lb.take i ++ [lb[i]]) := Lib.hid (List.take_succ_eq_append_getElem hib)
    obtain ⟨x, hx⟩ : ∃ x, la[i] = x := ⟨_, rfl⟩
    obtain ⟨y, hy⟩ : ∃ y, lb[i] = y := ⟨_, rfl⟩
    rw [hx] at k0 hxa HTA
    rw [hy] at q0 hxb HTB
    obtain ⟨kx, bx⟩ := x
    obtain ⟨ky, bY⟩ := y
    simp only at k0 q0 hxa hxb
    obtain ⟨p1, c1, rfl, -⟩ := id hxa
    obtain ⟨p2, c2, rfl, -⟩ := id hxb
    rw [bys_length] at k1 q1 hxa hxb
    obtain ⟨n1, hn1⟩ : ∃ n1, bx.length = n1 := ⟨_, rfl⟩
    obtain ⟨n2, hn2⟩ : ∃ n2, bY.length = n2 := ⟨_, rfl⟩
    rw [hn1] at k1 hxa
    rw [hn2] at q1 hxb
    have HBY : Hid (∀ W, Mod nil wr W → Calls Tryz.prog 25 #[.slice p1 n1 c1, .slice p2 n2 c2] W fun e w' => e = .returned (.bool (decide (bx = bY))) ∧ W = w') := Lib.hid (fun W m => refBytesW _ _ _ _ bx bY W (hxa.modNil m) (hxb.modNil m))
    have HK : Hid (∀ W, Mod nil wr W → (fun w' => w'.cell? ⟨ba, oa + i * 2, none⟩ = some (.int .i64 kx) ∧ w'.cell? ⟨ba, oa + i * 2 + 1, none⟩ = some (.slice p1 n1 c1) ∧ w'.cell? ⟨bb, ob + i * 2, none⟩ = some (.int .i64 ky) ∧ w'.cell? ⟨bb, ob + i * 2 + 1, none⟩ = some (.slice p2 n2 c2)) W) := Lib.hid (fun W m => ⟨cell_kept k0 m hal (not_nil _), cell_kept k1 m hal (not_nil _), cell_kept q0 m hbl (not_nil _), cell_kept q1 m hbl (not_nil _)⟩)
    have HNE : Hid (¬ (kx = ky ∧ bx = bY) → ¬ la = lb) := Lib.hid (by
     intro hn e
     have h1 := HTA.out
     rw [e, HTB.out] at h1
     have h2 := List.append_cancel_left h1
     have h3 := (List.cons.inj h2).1
     simp only [En.mk.injEq] at h3
     exact hn ⟨h3.1.symm, h3.2.symm⟩)
    have HNO : Hid (¬ (kx = ky ∧ bx = bY) → ∀ k, Post (.returned (.bool false)) (wr.drewN k)) := Lib.hid (fun hn k => HPOST.out _ _ ⟨by rw [decide_eq_false (HNE.out hn)], HM.out.drewN k⟩)
    clear hx hy hxa hxb hn1 hn2 k0 k1 q0 q1
    by_cases hk : kx = ky
    ·subst hk
     have hkk : (kx != kx) = false := by simp
     by_cases hbb : bx = bY
     ·rw [decide_eq_true hbb] at HBY
      have HN : Hid (la.take (i + 1) = lb.take (i + 1)) := Lib.hid (by rw [HTA.out, HTB.out, HTK.out, hbb])
      have HMN : Hid (∀ k, Mod nil w (wr.drewN k)) := Lib.hid (fun k => HM.out.drewN k)
      clear hbb HTA HTB
      go_upto_region 6 with (fail)
      refine wp_region_held_drew (S := (fun w' => w'.cell? ⟨ba, oa + i * 2, none⟩ = some (.int .i64 kx) ∧ w'.cell? ⟨ba, oa + i * 2 + 1, none⟩ = some (.slice p1 n1 c1) ∧ w'.cell? ⟨bb, ob + i * 2, none⟩ = some (.int .i64 kx) ∧ w'.cell? ⟨bb, ob + i * 2 + 1, none⟩ = some (.slice p2 n2 c2))) (by kernel_rfl) (HK.out _ mD) (fun hHeld => ?_)
      refine sH 0 ?_
      refine sH 1 ?_
      refine sH 2 ?_
      refine sH 3 ?_
      refine sH 4 ?_
      refine sH 5 ?_
      refine sH 6 ?_
      refine sH 7 ?_
      refine sH 8 ?_
      refine sH 9 ?_
      refine sH 10 ?_
      refine sH 11 ?_
      refine sH 12 ?_
      refine sH 13 ?_
      refine sH 14 ?_
      refine sH 15 ?_
      refine sH 16 ?_
      refine sH 17 ?_
      refine sH 18 ?_
      refine sH 19 ?_
      refine sH 20 ?_
      refine sH 21 ?_
      refine rH 22 (fun K hK => ?_)
      go_simp
      refine (HBY.out _ ?_).mono ?_
      ·exact mD
      rintro e w' ⟨rfl, rfl⟩
      refine hK.out _ _ (HK.out _ mD) (fun hHeld => ?_)
      clear hK K
      (try simp only [Act.put, pT])
      refine sH 23 ?_
      refine sH 24 ?_
      refine wpAnyH_done (by kernel_rfl) ?_ _
      go_wp2_with fail
      exact ⟨⟨i + 1, by omega, by go_num, HN, Lib.hid (HMN.out 1)⟩, by simp [intOf]; omega⟩
     ·rw [decide_eq_false hbb] at HBY
      have HE := Lib.hid (HNO.out (fun h => hbb h.2))
      clear hbb HTA HTB
      go_upto_region 6 with (fail)
      refine wp_region_held_drew (S := (fun w' => w'.cell? ⟨ba, oa + i * 2, none⟩ = some (.int .i64 kx) ∧ w'.cell? ⟨ba, oa + i * 2 + 1, none⟩ = some (.slice p1 n1 c1) ∧ w'.cell? ⟨bb, ob + i * 2, none⟩ = some (.int .i64 kx) ∧ w'.cell? ⟨bb, ob + i * 2 + 1, none⟩ = some (.slice p2 n2 c2))) (by kernel_rfl) (HK.out _ mD) (fun hHeld => ?_)
      refine sH 0 ?_
      refine sH 1 ?_
      refine sH 2 ?_
      refine sH 3 ?_
      refine sH 4 ?_
      refine sH 5 ?_
      refine sH 6 ?_
      refine sH 7 ?_
      refine sH 8 ?_
      refine sH 9 ?_
      refine sH 10 ?_
      refine sH 11 ?_
      refine sH 12 ?_
      refine sH 13 ?_
      refine sH 14 ?_
      refine sH 15 ?_
      refine sH 16 ?_
      refine sH 17 ?_
      refine sH 18 ?_
      refine sH 19 ?_
      refine sH 20 ?_
      refine sH 21 ?_
      refine rH 22 (fun K hK => ?_)
      go_simp
      refine (HBY.out _ ?_).mono ?_
      ·exact mD
      rintro e w' ⟨rfl, rfl⟩
      refine hK.out _ _ (HK.out _ mD) (fun hHeld => ?_)
      clear hK K
      (try simp only [Act.put, pT])
      refine sH 23 ?_
      refine sH 24 ?_
      refine wpAnyH_done (by kernel_rfl) ?_ _
      go_wp2_with fail
      exact HE.out 1
    ·have hkk : (kx != ky) = true := by simpa using hk
     have HE := Lib.hid (HNO.out (fun h => hk h.1))
     clear hk HTA HTB
     go_upto_region 6 with (fail)
     refine wp_region_held_drew (S := (fun w' => w'.cell? ⟨ba, oa + i * 2, none⟩ = some (.int .i64 kx) ∧ w'.cell? ⟨ba, oa + i * 2 + 1, none⟩ = some (.slice p1 n1 c1) ∧ w'.cell? ⟨bb, ob + i * 2, none⟩ = some (.int .i64 ky) ∧ w'.cell? ⟨bb, ob + i * 2 + 1, none⟩ = some (.slice p2 n2 c2))) (by kernel_rfl) (HK.out _ mD) (fun hHeld => ?_)
     refine sH 0 ?_
     refine sH 1 ?_
     refine sH 2 ?_
     refine sH 3 ?_
     refine sH 4 ?_
     refine sH 5 ?_
     refine sH 6 ?_
     refine sH 7 ?_
     refine sH 8 ?_
     refine sH 9 ?_
     refine sH 10 ?_
     refine sH 11 ?_
     refine sS 12 ?_
     refine sS 13 ?_
     refine sS 14 ?_
     refine sS 15 ?_
     refine sS 16 ?_
     refine sS 17 ?_
     refine sS 18 ?_
     refine sS 19 ?_
     refine sS 20 ?_
     refine sS 21 ?_
     refine sS 22 ?_
     refine sS 23 ?_
     refine sH 24 ?_
     refine wpAnyH_done (by kernel_rfl) ?_ _
     go_wp2_with fail
     exact HE.out 1
   ·obtain rfl : i = na := by omega
    have HEND : Hid (Post (.returned (.bool true)) wr) := Lib.hid (HPOST.out _ _ ⟨by
     have h := HTK.out
     rw [List.take_of_length_le (by rw [HLA.out]; exact Nat.le_refl _), List.take_of_length_le (by rw [HLB.out]; exact Nat.le_refl _)] at h
     rw [decide_eq_true h], HM.out⟩)
    clear HTK HM
    go_wp2_with fail
    exact HEND.out
 ·have hne : ((na : Int) != (nb : Int)) = true := by rw [bne_iff_ne]; omega
  have HEND : Hid (Post (.returned (.bool false)) w) := Lib.hid (HPOST.out _ _ ⟨by rw [decide_eq_false]; intro e; rw [e] at hla; omega, Mod.refl _ _⟩)
  clear ha hb hla hlb
  go_enter Tryz.func22, Tryz.ntmps22
  go_wp2_with fail
  exact HEND.out
end Go.Proofs.YtdfahddpkkeldaaGreat

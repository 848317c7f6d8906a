/- plan.Encode. (Printed by wip/tools/gen_plank.py.) -/
import Derived.Test.YtdfpmlfdmhlhcaaGreatPlanJ
import Derived.Test.YtdfpmlfdmhlhcaaGreatWire
import Derived.Test.YtdfpmlfdmhlhcaaGreatShaNew
import Derived.Test.YtdfpmlfdmhlhcaaGreatItems
import Derived.Lib.AppendStr
namespace Go.Proofs.YtdfpmlfdmhlhcaaGreat
open Go.RowKit

theorem encInt (S : Nat → Prop) (b : Nat) (l : List UInt8) (n : Int) (sz : Int) (size : Nat) (W0 : World) (h : IsEncS S W0 b l) (hB : ∀ k, W0.heap.size ≤ k → S k) (hs : sz = (size : Int)) (h1 : 1 ≤ size) (h8 : size ≤ 8) (h0 : 0 ≤ n) (hn : n ≤ 4611686018427387904) (hfit : n.toNat < 2 ^ (8 * size)) (hl : l.length ≤ 1099511627776) :
    Calls Tryz.prog 38 #[.pointer (some ⟨b, 0, none⟩), .int .i64 n, .int .i64 sz] W0 fun e w' => e = .returned (.tuple #[]) ∧ IsEncS S w' b (l ++ nb n size) ∧ Mod S W0 w' := by
  subst hs
  obtain ⟨N, rfl⟩ := Int.eq_ofNat_of_zero_le h0
  rw [Int.toNat_natCast] at hfit
  have h := encNumS S b l N size W0 h hB h1 h8 (by omega) hfit hl
  unfold nb
  rw [Int.toNat_natCast]
  exact h
theorem vec_text {B : Nat} {w : World} {v : Value} {n : Nat} {xs : List Value} (hv : IsVec (fun k => B ≤ k) w 5 1 v n xs) (hB : B ≤ w.heap.size) (l : List UInt8) (hl : n + l.length ≤ 1099511627776) :
    ∃ v' w', (Builtin.append_ #[26, 9] 26 #[v, .string ⟨l.toArray⟩]).run Tryz.prog w = .ok v' w' ∧ IsVec (fun k => B ≤ k) w' 5 1 v' (n + l.length) (xs ++ bys l) ∧ Mod (fun k => B ≤ k) w w' := by
  obtain ⟨i0, hi, hz0, hz1, hz2⟩ := info_parts info_u8
  have hown : w.ownsRow B 5 1 v n xs := by
    refine ⟨hv.1.1, ?_⟩
    rcases hv.1.2 with h | ⟨g, cap, cur, rfl, _, h⟩
    · exact .inl h
    · exact .inr ⟨g, cap, cur, rfl, hv.2 g rfl, h⟩
  have hsz : (⟨l.toArray⟩ : ByteArray).size = l.length := rfl
  obtain ⟨v', w', h1, h2, h3, -⟩ := Lib.run_append_own_string (P := Tryz.prog) w B 26 9 26 5 i0 Tryz.underlying26 Tryz.underlying9 hi hz0 hz1 hz2 v n xs hown ⟨l.toArray⟩ (by rw [hsz]; unfold maxLen; omega) (by rw [hsz]; omega) hB
  rw [hsz] at h2
  refine ⟨v', w', h1, ⟨⟨h2.1, ?_⟩, fun k hk => (h2.lt k hk).1⟩, (Mod.ofGrown h3).mono (fun k _ h => hv.2 k h)⟩
  rcases h2.2 with h | ⟨g, cap, cur, h⟩
  · exact .inl h
  · exact .inr ⟨g, cap, cur, h.1, Nat.zero_le _, h.2.2⟩
theorem IsVec.capd {S : Nat → Prop} {w : World} {E : TypeId} {sz n : Nat} {v : Value} {xs : List Value} (h : IsVec S w E sz v n xs) : ∃ p c, v = .slice p n c ∧ n ≤ c ∧ c ≤ maxLen := by
  rcases h.1.2 with ⟨rfl, h0⟩ | ⟨g, cap, cur, rfl, _, _, h, hcm, _⟩
  · subst h0; exact ⟨none, 0, rfl, Nat.le_refl _, Nat.zero_le _⟩
  · exact ⟨_, _, rfl, h, hcm⟩
theorem row_int {S : Nat → Prop} {w : World} {p : Option Addr} {n c : Nat} {ps : List Int} (h : IsRow S w (.slice p n c) (ps.map (.int .i64))) (i : Nat) (hi : i < ps.length) :
    ∃ g o, p = some ⟨g, o, none⟩ ∧ S g ∧ g < w.heap.size ∧ w.cell? ⟨g, o + i, none⟩ = some (.int .i64 (ps.getD i 0)) := by
  obtain ⟨p', c', he, hc⟩ := h
  simp only [Value.slice.injEq] at he
  obtain ⟨rfl, -, -⟩ := he
  obtain ⟨g, o, h1, h2, h3, h4⟩ := hc i (by rw [List.length_map]; exact hi)
  refine ⟨g, o, h1, h2, h3, ?_⟩
  rw [h4]; simp [hi]
def It.bytes (x : It) : List UInt8 := nb x.led 1 ++ nb x.asset 1 ++ nb x.amt 8
def legE (l : List It) : List UInt8 := nb l.length 1 ++ l.flatMap It.bytes
def Pl.bytes (P : Pl) : List UInt8 := nb P.deal 2 ++ nb P.ps.length 1 ++ P.ps.flatMap (fun x => nb x 1) ++ P.ls.flatMap legE ++ P.hash ++ (nb P.start 8 ++ nb P.eps 2 ++ nb P.wait 2)
def encF (P : Pl) : List UInt8 × Int := if checkN P 16 4 4 = 0 then (P.bytes, 0) else ([], 16)
theorem It.bytes_length (x : It) : x.bytes.length = 10 := by unfold It.bytes; simp [nb_length]
theorem flat_length {α : Type} (f : α → List UInt8) (c : Nat) : ∀ (l : List α), (∀ x ∈ l, (f x).length ≤ c) → (l.flatMap f).length ≤ l.length * c
  | [], _ => by simp
  | x :: l, h => by
    rw [List.flatMap_cons, List.length_append, List.length_cons, Nat.succ_mul]
    have h1 := h x (by simp)
    have h2 := flat_length f c l (fun y hy => h y (by simp [hy]))
    omega
theorem legFrom_ok : ∀ (l : List It) (was : Int), legFrom was l = true → ∀ x ∈ l, x.ok
  | y :: l, was, h, x, hx => by
    simp only [legFrom, Bool.and_eq_true, decide_eq_true_eq] at h
    rcases List.mem_cons.1 hx with rfl | hx
    · exact h.1.1
    · exact legFrom_ok l _ h.2 x hx
theorem legB_ok {l : List It} (h : legB l = true) : 1 ≤ l.length ∧ l.length ≤ 8 ∧ ∀ x ∈ l, x.ok := by
  simp only [legB, Bool.and_eq_true, decide_eq_true_eq] at h
  exact ⟨h.1.1, h.1.2, legFrom_ok l _ h.2⟩
theorem legE_length {l : List It} (h : l.length ≤ 8) : (legE l).length ≤ 81 := by
  unfold legE
  rw [List.length_append, nb_length]
  have := flat_length It.bytes 10 l (fun x _ => by rw [It.bytes_length]; omega)
  omega
theorem checkN_self {P : Pl} {a b c : Int} (h : checkN P a b c = 0) : makeN P.deal P.ps P.ls P.hash P.start P.eps P.wait = (P, 0) := by
  unfold checkN at h
  by_cases hm : makeN P.deal P.ps P.ls P.hash P.start P.eps P.wait = (P, 0)
  · exact hm
  · rw [if_neg hm] at h; exact absurd h (by decide)
theorem make_own {P : Pl} (h : makeN P.deal P.ps P.ls P.hash P.start P.eps P.wait = (P, 0)) : mayN P.deal P.ps P.ls P.start P.eps P.wait ∧ ladderN P.ps.length P.start P.eps P.wait = some P.dl ∧ P.hash.length = 32 := by
  unfold makeN at h
  by_cases hm : mayN P.deal P.ps P.ls P.start P.eps P.wait
  · rw [if_pos hm] at h
    split at h
    · simp at h
    · next l hl =>
      by_cases h32 : P.hash.length = 32
      · rw [if_pos h32] at h
        have := congrArg Pl.dl (Prod.mk.inj h).1
        simp only at this
        rw [this] at hl
        exact ⟨hm, hl, h32⟩
      · rw [if_neg h32] at h; simp at h
  · rw [if_neg hm] at h; simp at h
set_option maxRecDepth 100000 in
set_option maxHeartbeats 8000000 in
theorem planEncode (S : Nat → Prop) (v : Value) (P : Pl) (w : World) (hp : IsPl S w v P) (hf : P.few) (hh : P.hash.length ≤ 1000000000) :
    Calls Tryz.prog 36 #[v] w fun e w' => ∃ vb, e = .returned (.tuple #[vb, .int .i64 (encF P).2]) ∧ IsVec (fun k => w.heap.size ≤ k) w' 5 1 vb (encF P).1.length (bys (encF P).1) ∧ Mod nil w w' := by
  refine (?_ : ∀ Post : Ending → World → Prop, Hid (∀ e w', (∃ vb, e = .returned (.tuple #[vb, .int .i64 (encF P).2]) ∧ IsVec (fun k => w.heap.size ≤ k) w' 5 1 vb (encF P).1.length (bys (encF P).1) ∧ Mod nil w w') → Post e w') → Calls Tryz.prog 36 #[v] w Post) _ (Lib.hid (fun _ _ h => h))
  intro Post HPOST
  obtain ⟨p1, c1, p2, c2, p7, c7, rfl, hps, hls, hdl⟩ := id hp
  have HPL := Lib.hid hp
  obtain ⟨deal, ps, ls, Z, start, eps, wait, dl⟩ := P
  simp only at *
  obtain ⟨np, hnp⟩ : ∃ n, ps.length = n := ⟨_, rfl⟩
  obtain ⟨nl, hnl⟩ : ∃ n, ls.length = n := ⟨_, rfl⟩
  obtain ⟨nd, hnd⟩ : ∃ n, dl.length = n := ⟨_, rfl⟩
  rw [hnp] at hps HPL ⊢
  rw [hnl] at hls HPL ⊢
  rw [hnd] at hdl HPL ⊢
  have HPS := Lib.hid hps
  have HLS := Lib.hid hls
  have HNP := Lib.hid hnp
  have HNL := Lib.hid hnl
  have HFEW := Lib.hid hf
  obtain ⟨r, hr⟩ : ∃ r, w.heap.size = r := ⟨_, rfl⟩
  clear hp hps hls hdl hnp hnl hnd hf
  go_enter Tryz.func36, Tryz.ntmps36
  go_upto_region 1 with (fail)
  (try rw [hr])
  generalize hw1 : World.alloc w _ = w1
  have hm1 : Mod nil w w1 := by rw [← hw1]; exact (Mod.refl _ _).alloc _
  have hb1 : w1.heap[r]? = some (.cells #[.int .i64 deal, .slice p1 np c1, .slice p2 nl c2, .string ⟨Z.toArray⟩, .int .i64 start, .int .i64 eps, .int .i64 wait, .slice p7 nd c7] 25 (0, 0)) := by rw [← hw1, ← hr]; exact heap_alloc_new _ _
  have a0 := cell_of hb1 0
  have a1 := cell_of hb1 1
  have a2 := cell_of hb1 2
  have a3 := cell_of hb1 3
  have a4 := cell_of hb1 4
  have a5 := cell_of hb1 5
  have a6 := cell_of hb1 6
  have a7 := cell_of hb1 7
  simp only [List.getElem?_toArray, List.getElem?_cons_zero, List.getElem?_cons_succ] at a0 a1 a2 a3 a4 a5 a6 a7
  have HM1 := Lib.hid hm1
  have HWR : Hid (w.heap.size = r) := Lib.hid hr
  clear hw1 hm1 hb1 hr
  have HC := Lib.hid (planCheck _ _ ⟨deal, ps, ls, Z, start, eps, wait, dl⟩ 16 4 4 w1 (HPL.out.modNil HM1.out) HFEW.out hh)
  by_cases hck : checkN ⟨deal, ps, ls, Z, start, eps, wait, dl⟩ 16 4 4 = 0
  case neg =>
    obtain ⟨cn, hcn⟩ : ∃ c, checkN ⟨deal, ps, ls, Z, start, eps, wait, dl⟩ 16 4 4 = c := ⟨_, rfl⟩
    have hb : (cn != 0) = true := by rw [hcn] at hck; simp [hck]
    have HEF : Hid (encF ⟨deal, ps, ls, Z, start, eps, wait, dl⟩ = ([], 16)) := Lib.hid (if_neg hck)
    rw [hcn] at HC hck
    clear hcn hck
    go_wp2_with fail
    refine HC.out.mono ?_
    rintro e w3 ⟨rfl, hm3⟩
    have HE := Lib.hid (HPOST.out _ w3 ⟨.slice none 0 0, by rw [HEF.out], by rw [HEF.out]; exact IsVec.nil (fun k => w.heap.size ≤ k) w3 5 1, HM1.out.thenNil hm3⟩)
    clear hm3 a0 a1 a2 a3 a4 a5 a6 a7
    go_wp2_with fail
    exact HE.out
  have HEF : Hid (encF ⟨deal, ps, ls, Z, start, eps, wait, dl⟩ = (Pl.bytes ⟨deal, ps, ls, Z, start, eps, wait, dl⟩, 0)) := Lib.hid (if_pos hck)
  have hms := make_own (P := ⟨deal, ps, ls, Z, start, eps, wait, dl⟩) (checkN_self hck)
  rw [hck] at HC
  clear hck
  go_wp2_with fail
  refine HC.out.mono ?_
  rintro e w2 ⟨rfl, hm2⟩
  have a0' := cell_kept a0 hm2 (World.block_lt_of_cell? _ _ a0) (not_nil _)
  clear a0
  have a0 := a0'
  clear a0'
  have a1' := cell_kept a1 hm2 (World.block_lt_of_cell? _ _ a1) (not_nil _)
  clear a1
  have a1 := a1'
  clear a1'
  have a2' := cell_kept a2 hm2 (World.block_lt_of_cell? _ _ a2) (not_nil _)
  clear a2
  have a2 := a2'
  clear a2'
  have a3' := cell_kept a3 hm2 (World.block_lt_of_cell? _ _ a3) (not_nil _)
  clear a3
  have a3 := a3'
  clear a3'
  have a4' := cell_kept a4 hm2 (World.block_lt_of_cell? _ _ a4) (not_nil _)
  clear a4
  have a4 := a4'
  clear a4'
  have a5' := cell_kept a5 hm2 (World.block_lt_of_cell? _ _ a5) (not_nil _)
  clear a5
  have a5 := a5'
  clear a5'
  have a6' := cell_kept a6 hm2 (World.block_lt_of_cell? _ _ a6) (not_nil _)
  clear a6
  have a6 := a6'
  clear a6'
  clear a7
  have HM2 := Lib.hid (HM1.out.thenNil hm2)
  obtain ⟨⟨hd1, hd2, ⟨hp2, hp16, hrng, -⟩, hnn, hlg, htk, htm⟩, -, hz⟩ := hms
  (try simp only at hd1 hd2 hp2 hp16 hrng hnn hlg htk htm hz)
  rw [HNP.out] at hp2 hp16 hnn
  have hnl16 : nl ≤ 16 := by rw [← HNL.out, hnn]; exact hp16
  obtain ⟨t1, t2, t3, t4⟩ := htm
  obtain ⟨s1, s2⟩ := htk
  have HRNG := Lib.hid hrng
  have HLG : Hid (∀ l ∈ ls, 1 ≤ l.length ∧ l.length ≤ 8 ∧ ∀ x ∈ l, x.ok) := Lib.hid (fun l hl => legB_ok (List.all_eq_true.1 hlg l hl))
  have HZ := Lib.hid hz
  have HPSL : Hid (∀ i, i < np → ∃ x, ps.getD i 0 = x ∧ 0 ≤ x ∧ x < 16 ∧ ps.take (i + 1) = ps.take i ++ [x]) := Lib.hid (fun i hi => by
    have hi' : i < ps.length := by rw [HNP.out]; exact hi
    obtain ⟨h1, h2⟩ := HRNG.out ps[i] (List.getElem_mem _)
    exact ⟨ps[i], by simp [hi'], h1, h2, List.take_succ_eq_append_getElem hi'⟩)
  have HLEN1 : Hid (∀ i, i ≤ np → ((ps.take i).flatMap (fun x => nb x 1)).length ≤ 16) := Lib.hid (fun i hi => by
    have h := flat_length (fun x => nb x 1) 1 (ps.take i) (fun x _ => by rw [nb_length]; omega)
    rw [List.length_take] at h
    omega)
  have HLEN2 : Hid (∀ i, i ≤ nl → ((ls.take i).flatMap legE).length ≤ 1296) := Lib.hid (fun i hi => by
    have h := flat_length legE 81 (ls.take i) (fun x hx => legE_length (HLG.out x (List.mem_of_mem_take hx)).2.1)
    rw [List.length_take] at h
    omega)
  clear hrng hlg hz hm2 hnn
  obtain ⟨B, hB⟩ : ∃ B, w2.heap.size = B := ⟨_, rfl⟩
  have hrB : r < B := by have h : r < w2.heap.size := World.block_lt_of_cell? _ _ a0; omega
  have hwB : w.heap.size ≤ B := by have := HM2.out.size; omega
  go_wp2_with fail
  refine (wireNewEnc w2).mono ?_
  rintro e w3 ⟨b, rfl, he, m3⟩
  rw [hB] at he
  have hB3 : B ≤ w3.heap.size := by have := m3.size; omega
  have a0' := cell_kept a0 m3 (World.block_lt_of_cell? _ _ a0) (not_nil _)
  clear a0
  have a0 := a0'
  clear a0'
  have a1' := cell_kept a1 m3 (World.block_lt_of_cell? _ _ a1) (not_nil _)
  clear a1
  have a1 := a1'
  clear a1'
  have a2' := cell_kept a2 m3 (World.block_lt_of_cell? _ _ a2) (not_nil _)
  clear a2
  have a2 := a2'
  clear a2'
  have a3' := cell_kept a3 m3 (World.block_lt_of_cell? _ _ a3) (not_nil _)
  clear a3
  have a3 := a3'
  clear a3'
  have a4' := cell_kept a4 m3 (World.block_lt_of_cell? _ _ a4) (not_nil _)
  clear a4
  have a4 := a4'
  clear a4'
  have a5' := cell_kept a5 m3 (World.block_lt_of_cell? _ _ a5) (not_nil _)
  clear a5
  have a5 := a5'
  clear a5'
  have a6' := cell_kept a6 m3 (World.block_lt_of_cell? _ _ a6) (not_nil _)
  clear a6
  have a6 := a6'
  clear a6'
  have HM3 := Lib.hid (HM2.out.thenNil m3)
  have HKEEP : Hid (∀ W, Mod (fun k => B ≤ k) w3 W → W.cell? ⟨r, 0, none⟩ = some (.int .i64 deal) ∧ W.cell? ⟨r, 1, none⟩ = some (.slice p1 np c1) ∧ W.cell? ⟨r, 2, none⟩ = some (.slice p2 nl c2) ∧ W.cell? ⟨r, 3, none⟩ = some (.string ⟨Z.toArray⟩) ∧ W.cell? ⟨r, 4, none⟩ = some (.int .i64 start) ∧ W.cell? ⟨r, 5, none⟩ = some (.int .i64 eps) ∧ W.cell? ⟨r, 6, none⟩ = some (.int .i64 wait)) := Lib.hid (fun W m => ⟨cell_kept a0 m (World.block_lt_of_cell? _ _ a0) (fun h => absurd (Nat.lt_of_lt_of_le hrB h) (Nat.lt_irrefl _)), cell_kept a1 m (World.block_lt_of_cell? _ _ a1) (fun h => absurd (Nat.lt_of_lt_of_le hrB h) (Nat.lt_irrefl _)), cell_kept a2 m (World.block_lt_of_cell? _ _ a2) (fun h => absurd (Nat.lt_of_lt_of_le hrB h) (Nat.lt_irrefl _)), cell_kept a3 m (World.block_lt_of_cell? _ _ a3) (fun h => absurd (Nat.lt_of_lt_of_le hrB h) (Nat.lt_irrefl _)), cell_kept a4 m (World.block_lt_of_cell? _ _ a4) (fun h => absurd (Nat.lt_of_lt_of_le hrB h) (Nat.lt_irrefl _)), cell_kept a5 m (World.block_lt_of_cell? _ _ a5) (fun h => absurd (Nat.lt_of_lt_of_le hrB h) (Nat.lt_irrefl _)), cell_kept a6 m (World.block_lt_of_cell? _ _ a6) (fun h => absurd (Nat.lt_of_lt_of_le hrB h) (Nat.lt_irrefl _))⟩)
  have HN : Hid (∀ W, Mod (fun k => B ≤ k) w3 W → Mod nil w W) := Lib.hid (fun W m => HM3.out.new m (fun k h => by omega))
  have HE := Lib.hid he.wide
  have M : Hid (Mod (fun k => B ≤ k) w3 w3) := Lib.hid (Mod.refl _ _)
  clear he m3 hB
  go_wp2_with fail
  refine (encInt (fun k => B ≤ k) b _ deal 2 2 w3 HE.out (fun k hk => by have := M.out.size; omega) rfl (by omega) (by omega) hd1 (by omega) (by omega) (by simp)).mono ?_
  rintro e w4 ⟨rfl, he2, m2⟩
  have HE2 := Lib.hid he2
  have M2 := Lib.hid (M.out.trans m2 (fun _ _ h => h))
  clear HE M he2 m2
  have HE := HE2
  have M := M2
  clear HE2 M2
  clear a0 a1 a2 a3 a4 a5 a6
  obtain ⟨a0, a1, a2, a3, a4, a5, a6⟩ := HKEEP.out w4 M.out
  go_wp2_with fail
  refine (encInt (fun k => B ≤ k) b _ np 1 1 w4 HE.out (fun k hk => by have := M.out.size; omega) rfl (by omega) (by omega) (by omega) (by omega) (by omega) (by simp [nb_length])).mono ?_
  rintro e w5 ⟨rfl, he2, m2⟩
  have HE2 := Lib.hid he2
  have M2 := Lib.hid (M.out.trans m2 (fun _ _ h => h))
  clear HE M he2 m2
  have HE := HE2
  have M := M2
  clear HE2 M2
  clear a0 a1 a2 a3 a4 a5 a6
  obtain ⟨a0, a1, a2, a3, a4, a5, a6⟩ := HKEEP.out w5 M.out
  go_wp2_with fail
  go_loopw [33] (fun v wr => ∃ i : Nat, i ≤ np ∧ v = .int .i64 i ∧ Hid (IsEncS (fun k => B ≤ k) wr b ([] ++ nb deal 2 ++ nb np 1 ++ (ps.take i).flatMap (fun x => nb x 1))) ∧ Hid (Mod (fun k => B ≤ k) w3 wr)) (fun v _ => np - (intOf v).toNat)
  case atStart => exact ⟨0, by omega, rfl, by simpa using HE, M⟩
  case round =>
    clear HE M
    obtain ⟨i, hi, rfl, HE, M⟩ := hrel
    clear a0 a1 a2 a3 a4 a5 a6
    obtain ⟨a0, a1, a2, a3, a4, a5, a6⟩ := HKEEP.out wr M.out
    by_cases hlt : i < np
    · obtain ⟨x, hx, hx0, hx16, htk⟩ := HPSL.out i hlt
      obtain ⟨g, o, rfl, -, -, xj⟩ := row_int (HPS.out.modNil (HN.out wr M.out)) i (by rw [HNP.out]; exact hlt)
      rw [hx] at xj
      have HL1 := HLEN1.out i hi
      have HTK := Lib.hid htk
      clear hx htk
      go_wp2_with fail
      refine (encInt (fun k => B ≤ k) b _ x 1 1 wr HE.out (fun k hk => by have := M.out.size; omega) rfl (by omega) (by omega) hx0 (by omega) (by omega) (by simp only [List.length_append, nb_length, List.length_nil]; omega)).mono ?_
      rintro e w6 ⟨rfl, he2, m2⟩
      have HE2 := Lib.hid he2
      have M2 := Lib.hid (M.out.trans m2 (fun _ _ h => h))
      clear HE M he2 m2
      have HE := HE2
      have M := M2
      clear HE2 M2
      clear a0 a1 a2 a3 a4 a5 a6
      obtain ⟨a0, a1, a2, a3, a4, a5, a6⟩ := HKEEP.out w6 M.out
      have HE7 : Hid (IsEncS (fun k => B ≤ k) w6 b ([] ++ nb deal 2 ++ nb np 1 ++ (ps.take (i + 1)).flatMap (fun x => nb x 1))) := Lib.hid (by
        have h := HE.out
        rw [List.append_assoc (_ ++ nb np 1)] at h
        rw [HTK.out, List.flatMap_append]
        simpa using h)
      clear HE
      go_wp2_with fail
      exact ⟨⟨i + 1, by omega, by go_num, HE7, M⟩, by simp [intOf]; omega⟩
    · obtain rfl : np = i := by omega
      have HE8 : Hid (IsEncS (fun k => B ≤ k) wr b ([] ++ nb deal 2 ++ nb np 1 ++ ps.flatMap (fun x => nb x 1))) := Lib.hid (by
        have h := HE.out
        rw [List.take_of_length_le (by rw [HNP.out]; exact Nat.le_refl _)] at h
        exact h)
      have hlf : (ps.flatMap (fun x => nb x 1)).length ≤ 16 := by
        have h := HLEN1.out np (Nat.le_refl _)
        rw [List.take_of_length_le (by rw [HNP.out]; exact Nat.le_refl _)] at h
        exact h
      obtain ⟨F1, hF1⟩ : ∃ l, [] ++ nb deal 2 ++ nb np 1 ++ ps.flatMap (fun x => nb x 1) = l := ⟨_, rfl⟩
      have hF1l : F1.length ≤ 19 := by rw [← hF1]; simp only [List.length_append, nb_length, List.length_nil]; omega
      rw [hF1] at HE8
      have HF1 := Lib.hid hF1
      clear HE hlf hF1
      have HE := HE8
      obtain ⟨w5b, rfl⟩ : ∃ W, W = wr := ⟨_, rfl⟩
      clear HE8
      go_wp2_with fail
      go_loopw [44] (fun v wr => ∃ i : Nat, i ≤ nl ∧ v = .int .i64 i ∧ Hid (IsEncS (fun k => B ≤ k) wr b (F1 ++ (ls.take i).flatMap legE)) ∧ Hid (Mod (fun k => B ≤ k) w3 wr)) (fun v _ => nl - (intOf v).toNat)
      case atStart => exact ⟨0, by omega, rfl, by simpa using HE, M⟩
      case round =>
        clear HE M
        obtain ⟨i, hi, rfl, HE, M⟩ := hrel
        clear a0 a1 a2 a3 a4 a5 a6
        obtain ⟨a0, a1, a2, a3, a4, a5, a6⟩ := HKEEP.out wr M.out
        by_cases hlt : i < nl
        · have hil : i < ls.length := by rw [HNL.out]; exact hlt
          obtain ⟨g, o, x, rfl, -, hgw, hx, hits⟩ := HLS.out.at i hil
          have hx' := cell_kept hx (HN.out wr M.out) hgw (not_nil _)
          clear hx
          have hx := hx'
          clear hx' hgw
          obtain ⟨l, hll⟩ : ∃ l, ls[i] = l := ⟨_, rfl⟩
          rw [hll] at hits
          obtain ⟨px, cx, rfl⟩ := hits.form
          obtain ⟨hl1, hl8, hlx⟩ := HLG.out l (by rw [← hll]; exact List.getElem_mem _)
          have HTK : Hid (ls.take (i + 1) = ls.take i ++ [l]) := Lib.hid (by rw [List.take_succ_eq_append_getElem hil, hll])
          obtain ⟨n, hn⟩ : ∃ n, l.length = n := ⟨_, rfl⟩
          rw [hn] at hx hits hl1 hl8
          have HNN := Lib.hid hn
          have HLX := Lib.hid hlx
          have HITS := Lib.hid hits
          have HL2 := HLEN2.out i hi
          obtain ⟨F2, hF2⟩ : ∃ l, F1 ++ (ls.take i).flatMap legE = l := ⟨_, rfl⟩
          have hF2l : F2.length ≤ 1400 := by rw [← hF2]; simp only [List.length_append]; omega
          rw [hF2] at HE
          have HF2 := Lib.hid hF2
          clear hll hn hlx hits hF2 HL2
          obtain ⟨w6, rfl⟩ : ∃ W, W = wr := ⟨_, rfl⟩
          go_wp2_with fail
          refine (encInt (fun k => B ≤ k) b _ n 1 1 w6 HE.out (fun k hk => by have := M.out.size; omega) rfl (by omega) (by omega) (by omega) (by omega) (by omega) (by omega)).mono ?_
          rintro e w7 ⟨rfl, he2, m2⟩
          have HE2 := Lib.hid he2
          have M2 := Lib.hid (M.out.trans m2 (fun _ _ h => h))
          clear HE M he2 m2
          have HE := HE2
          have M := M2
          clear HE2 M2
          clear a0 a1 a2 a3 a4 a5 a6
          obtain ⟨a0, a1, a2, a3, a4, a5, a6⟩ := HKEEP.out w7 M.out
          clear hx
          go_wp2_with fail
          go_loopw [54] (fun v wr => ∃ j : Nat, j ≤ n ∧ v = .int .i64 j ∧ Hid (IsEncS (fun k => B ≤ k) wr b (F2 ++ nb n 1 ++ (l.take j).flatMap It.bytes)) ∧ Hid (Mod (fun k => B ≤ k) w3 wr)) (fun v _ => n - (intOf v).toNat)
          case atStart => exact ⟨0, by omega, rfl, by simpa using HE, M⟩
          case round =>
            clear HE M
            obtain ⟨j, hj, rfl, HE, M⟩ := hrel
            clear a0 a1 a2 a3 a4 a5 a6
            obtain ⟨a0, a1, a2, a3, a4, a5, a6⟩ := HKEEP.out wr M.out
            have HLJ : ((l.take j).flatMap It.bytes).length ≤ 80 := by
              have h := flat_length It.bytes 10 (l.take j) (fun x _ => by rw [It.bytes_length]; omega)
              rw [List.length_take] at h
              omega
            by_cases hlt2 : j < n
            · have hjl : j < l.length := by rw [HNN.out]; exact hlt2
              obtain ⟨g2, o2, rfl, -, -, k0, k1, k2⟩ := (HITS.out.modNil (HN.out wr M.out)).at j hjl
              obtain ⟨x, hxx⟩ : ∃ x, l[j] = x := ⟨_, rfl⟩
              rw [hxx] at k0 k1 k2
              have HTJ : Hid (l.take (j + 1) = l.take j ++ [x]) := Lib.hid (by rw [List.take_succ_eq_append_getElem hjl, hxx])
              have hok := HLX.out x (by rw [← hxx]; exact List.getElem_mem _)
              obtain ⟨led, asset, amt⟩ := x
              simp only at k0 k1 k2
              obtain ⟨F3, hF3⟩ : ∃ q, F2 ++ nb n 1 ++ (l.take j).flatMap It.bytes = q := ⟨_, rfl⟩
              have hF3l : F3.length ≤ 1500 := by rw [← hF3]; simp only [List.length_append, nb_length]; omega
              rw [hF3] at HE
              have HF3 := Lib.hid hF3
              obtain ⟨o0, o1, o2', o3, o4, o5⟩ : 0 ≤ led ∧ led ≤ 1 ∧ 0 ≤ asset ∧ asset ≤ 3 ∧ 1 ≤ amt ∧ amt ≤ 4611686018427387904 := by simp only [It.ok] at hok; omega
              clear hxx hF3 HLJ hok
              go_upto_region 19 with (fail)
              obtain ⟨g5, hg5⟩ : ∃ g, wr.heap.size = g := ⟨_, rfl⟩
              (try rw [hg5])
              generalize hw8 : World.alloc wr _ = w8
              have hm8 : Mod nil wr w8 := by rw [← hw8]; exact (Mod.refl _ _).alloc _
              have hb8 : w8.heap[g5]? = some (.cells #[.int .i64 led, .int .i64 asset, .int .i64 amt] 135 (0, 0)) := by rw [← hw8, ← hg5]; exact heap_alloc_new _ _
              have y0 := cell_of hb8 0
              have y1 := cell_of hb8 1
              have y2 := cell_of hb8 2
              simp only [List.getElem?_toArray, List.getElem?_cons_zero, List.getElem?_cons_succ] at y0 y1 y2
              have HE8 : Hid (IsEncS (fun k => B ≤ k ∧ k ≠ g5) w8 b F3) := Lib.hid ((HE.out.mono (fun k hk h => ⟨h, by omega⟩)).modNil hm8)
              have M8 : Hid (Mod (fun k => B ≤ k) w3 w8) := Lib.hid (M.out.thenNil hm8)
              have hg5B : B ≤ g5 := by have := M.out.size; omega
              clear HE M hg5
              have hg5 : g5 < w8.heap.size := heap_lt hb8
              have HE := HE8
              have M := M8
              clear HE8 M8 hw8 hm8 hb8 k0 k1 k2
              clear a0 a1 a2 a3 a4 a5 a6
              obtain ⟨a0, a1, a2, a3, a4, a5, a6⟩ := HKEEP.out w8 M.out
              go_wp2_with fail
              refine (encInt (fun k => B ≤ k ∧ k ≠ g5) b _ led 1 1 w8 HE.out (fun k hk => by have := M.out.size; omega) rfl (by omega) (by omega) o0 (by omega) (by omega) (by omega)).mono ?_
              rintro e w9 ⟨rfl, he2, m2⟩
              have HE2 := Lib.hid he2
              have M2 := Lib.hid (M.out.trans m2 (fun _ _ h => h.1))
              have y0' := cell_kept y0 m2 (World.block_lt_of_cell? _ _ y0) (fun h => h.2 rfl)
              clear y0
              have y0 := y0'
              clear y0'
              have y1' := cell_kept y1 m2 (World.block_lt_of_cell? _ _ y1) (fun h => h.2 rfl)
              clear y1
              have y1 := y1'
              clear y1'
              have y2' := cell_kept y2 m2 (World.block_lt_of_cell? _ _ y2) (fun h => h.2 rfl)
              clear y2
              have y2 := y2'
              clear y2'
              have hg5' := Nat.lt_of_lt_of_le hg5 m2.size
              clear hg5
              have hg5 := hg5'
              clear hg5'
              clear HE M he2 m2
              have HE := HE2
              have M := M2
              clear HE2 M2
              clear a0 a1 a2 a3 a4 a5 a6
              obtain ⟨a0, a1, a2, a3, a4, a5, a6⟩ := HKEEP.out w9 M.out
              go_wp2_with fail
              refine (encInt (fun k => B ≤ k ∧ k ≠ g5) b _ asset 1 1 w9 HE.out (fun k hk => by have := M.out.size; omega) rfl (by omega) (by omega) o2' (by omega) (by omega) (by simp only [List.length_append, nb_length]; omega)).mono ?_
              rintro e w10 ⟨rfl, he2, m2⟩
              have HE2 := Lib.hid he2
              have M2 := Lib.hid (M.out.trans m2 (fun _ _ h => h.1))
              have y0' := cell_kept y0 m2 (World.block_lt_of_cell? _ _ y0) (fun h => h.2 rfl)
              clear y0
              have y0 := y0'
              clear y0'
              have y1' := cell_kept y1 m2 (World.block_lt_of_cell? _ _ y1) (fun h => h.2 rfl)
              clear y1
              have y1 := y1'
              clear y1'
              have y2' := cell_kept y2 m2 (World.block_lt_of_cell? _ _ y2) (fun h => h.2 rfl)
              clear y2
              have y2 := y2'
              clear y2'
              have hg5' := Nat.lt_of_lt_of_le hg5 m2.size
              clear hg5
              have hg5 := hg5'
              clear hg5'
              clear HE M he2 m2
              have HE := HE2
              have M := M2
              clear HE2 M2
              clear a0 a1 a2 a3 a4 a5 a6
              obtain ⟨a0, a1, a2, a3, a4, a5, a6⟩ := HKEEP.out w10 M.out
              go_wp2_with fail
              refine (encInt (fun k => B ≤ k ∧ k ≠ g5) b _ amt 8 8 w10 HE.out (fun k hk => by have := M.out.size; omega) rfl (by omega) (by omega) (by omega) (by omega) (by omega) (by simp only [List.length_append, nb_length]; omega)).mono ?_
              rintro e w11 ⟨rfl, he2, m2⟩
              have HE2 := Lib.hid he2
              have M2 := Lib.hid (M.out.trans m2 (fun _ _ h => h.1))
              have y0' := cell_kept y0 m2 (World.block_lt_of_cell? _ _ y0) (fun h => h.2 rfl)
              clear y0
              have y0 := y0'
              clear y0'
              have y1' := cell_kept y1 m2 (World.block_lt_of_cell? _ _ y1) (fun h => h.2 rfl)
              clear y1
              have y1 := y1'
              clear y1'
              have y2' := cell_kept y2 m2 (World.block_lt_of_cell? _ _ y2) (fun h => h.2 rfl)
              clear y2
              have y2 := y2'
              clear y2'
              have hg5' := Nat.lt_of_lt_of_le hg5 m2.size
              clear hg5
              have hg5 := hg5'
              clear hg5'
              clear HE M he2 m2
              have HE := HE2
              have M := M2
              clear HE2 M2
              clear a0 a1 a2 a3 a4 a5 a6
              obtain ⟨a0, a1, a2, a3, a4, a5, a6⟩ := HKEEP.out w11 M.out
              have HE12 : Hid (IsEncS (fun k => B ≤ k) w11 b (F2 ++ nb n 1 ++ (l.take (j + 1)).flatMap It.bytes)) := Lib.hid (by
                have h := HE.out.mono (T := fun k => B ≤ k) (fun _ _ h => h.1)
                rw [HTJ.out, List.flatMap_append, ← List.append_assoc, HF3.out]
                simpa [It.bytes] using h)
              clear HE y0 y1 y2
              go_wp2_with fail
              exact ⟨⟨j + 1, by omega, by go_num, HE12, M⟩, by simp [intOf]; omega⟩
            · obtain rfl : n = j := by omega
              have HE8 : Hid (IsEncS (fun k => B ≤ k) wr b (F1 ++ (ls.take (i + 1)).flatMap legE)) := Lib.hid (by
                have h := HE.out
                rw [List.take_of_length_le (by rw [HNN.out]; exact Nat.le_refl _)] at h
                rw [HTK.out, List.flatMap_append, ← List.append_assoc, HF2.out]
                simpa [legE, HNN.out] using h)
              clear HE HLJ
              go_wp2_with fail
              exact ⟨⟨i + 1, by omega, by go_num, HE8, M⟩, by simp [intOf]; omega⟩
        · obtain rfl : nl = i := by omega
          have HE8 : Hid (IsEncS (fun k => B ≤ k) wr b (F1 ++ ls.flatMap legE)) := Lib.hid (by
            have h := HE.out
            rw [List.take_of_length_le (by rw [HNL.out]; exact Nat.le_refl _)] at h
            exact h)
          have hlf : (ls.flatMap legE).length ≤ 1296 := by
            have h := HLEN2.out nl (Nat.le_refl _)
            rw [List.take_of_length_le (by rw [HNL.out]; exact Nat.le_refl _)] at h
            exact h
          obtain ⟨F4, hF4⟩ : ∃ l, F1 ++ ls.flatMap legE = l := ⟨_, rfl⟩
          have hF4l : F4.length ≤ 1400 := by rw [← hF4]; simp only [List.length_append]; omega
          rw [hF4] at HE8
          have HF4 := Lib.hid hF4
          clear HE hlf hF4
          obtain ⟨nf, hnf⟩ : ∃ n, F4.length = n := ⟨_, rfl⟩
          rw [hnf] at hF4l
          have HNF := Lib.hid hnf
          clear hnf
          obtain ⟨w12, rfl⟩ : ∃ W, W = wr := ⟨_, rfl⟩
          have HB12 : Hid (B ≤ w12.heap.size) := Lib.hid (by have := M.out.size; omega)
          go_wp2_with fail
          refine (encDone B b _ w12 HE8.out.base (by rw [HNF.out]; omega)).mono ?_
          rintro e w13 ⟨v, rfl, hv, m13⟩
          rw [HNF.out] at hv
          obtain ⟨pv, cv, rfl⟩ := hv.form
          have M2 := Lib.hid (M.out.thenNil m13)
          clear HE8 M
          have M := M2
          clear M2
          clear a0 a1 a2 a3 a4 a5 a6
          obtain ⟨a0, a1, a2, a3, a4, a5, a6⟩ := HKEEP.out w13 M.out
          obtain ⟨v14, w14, hrun, hv14, m14⟩ := vec_text hv m13.size Z (by rw [HZ.out]; omega)
          rw [HZ.out] at hv14
          have hsm := m13.size
          have HRUN := Lib.hid hrun
          have HV14 := Lib.hid hv14
          have M2 : Hid (Mod (fun k => B ≤ k) w3 w14) := Lib.hid (M.out.trans m14 (fun k _ h => Nat.le_trans HB12.out h))
          clear M hv hrun m13
          go_wp2_with (first | (at_builtin; refine wpList_append_run rfl _ _ _ _ rfl rfl rfl HRUN.out ?_))
          obtain ⟨B2, hB2e⟩ : ∃ B, w14.heap.size = B := ⟨_, rfl⟩
          have hB2 : B ≤ B2 := by have := M2.out.size; omega
          have HW12 : Hid (B ≤ w12.heap.size ∧ w12.heap.size ≤ B2) := Lib.hid ⟨by have := HB12.out; omega, by have := m14.size; omega⟩
          have HV14 : Hid (IsVec (fun k => w12.heap.size ≤ k ∧ k < B2) w14 5 1 v14 (nf + 32) (bys F4 ++ bys Z)) := Lib.hid (hv14.mono (fun k hk h => ⟨h, by omega⟩))
          clear hv14 m14 hsm HRUN
          refine (wireNewEnc w14).mono ?_
          rintro e w15 ⟨b2, rfl, he, m15⟩
          rw [hB2e] at he
          have HE := Lib.hid he.wide
          have M : Hid (Mod (fun k => B ≤ k) w3 w15) := Lib.hid (M2.out.thenNil m15)
          have HV15 := Lib.hid (HV14.out.modNil m15)
          have N : Hid (Mod (fun k => B2 ≤ k) w15 w15) := Lib.hid (Mod.refl _ _)
          have hs15 : B2 ≤ w15.heap.size := by have := m15.size; omega
          clear he m15 M2 HV14 hB2e
          clear a0 a1 a2 a3 a4 a5 a6
          obtain ⟨a0, a1, a2, a3, a4, a5, a6⟩ := HKEEP.out w15 M.out
          go_wp2_with fail
          refine (encInt (fun k => B2 ≤ k) b2 _ start 8 8 w15 HE.out (fun k hk => by have := N.out.size; omega) rfl (by omega) (by omega) s1 (by omega) (by omega) (by simp)).mono ?_
          rintro e w16 ⟨rfl, he2, m2⟩
          have HE2 := Lib.hid he2
          have M2 := Lib.hid (M.out.trans m2 (fun _ _ h => Nat.le_trans hB2 h))
          have N2 := Lib.hid (N.out.trans m2 (fun _ _ h => h))
          clear N
          have N := N2
          clear N2
          clear HE M he2 m2
          have HE := HE2
          have M := M2
          clear HE2 M2
          clear a0 a1 a2 a3 a4 a5 a6
          obtain ⟨a0, a1, a2, a3, a4, a5, a6⟩ := HKEEP.out w16 M.out
          go_wp2_with fail
          refine (encInt (fun k => B2 ≤ k) b2 _ eps 2 2 w16 HE.out (fun k hk => by have := N.out.size; omega) rfl (by omega) (by omega) t1 (by omega) (by omega) (by simp [nb_length])).mono ?_
          rintro e w17 ⟨rfl, he2, m2⟩
          have HE2 := Lib.hid he2
          have M2 := Lib.hid (M.out.trans m2 (fun _ _ h => Nat.le_trans hB2 h))
          have N2 := Lib.hid (N.out.trans m2 (fun _ _ h => h))
          clear N
          have N := N2
          clear N2
          clear HE M he2 m2
          have HE := HE2
          have M := M2
          clear HE2 M2
          clear a0 a1 a2 a3 a4 a5 a6
          obtain ⟨a0, a1, a2, a3, a4, a5, a6⟩ := HKEEP.out w17 M.out
          go_wp2_with fail
          refine (encInt (fun k => B2 ≤ k) b2 _ wait 2 2 w17 HE.out (fun k hk => by have := N.out.size; omega) rfl (by omega) (by omega) (by omega) (by omega) (by omega) (by simp [nb_length])).mono ?_
          rintro e w18 ⟨rfl, he2, m2⟩
          have HE2 := Lib.hid he2
          have M2 := Lib.hid (M.out.trans m2 (fun _ _ h => Nat.le_trans hB2 h))
          have N2 := Lib.hid (N.out.trans m2 (fun _ _ h => h))
          clear N
          have N := N2
          clear N2
          clear HE M he2 m2
          have HE := HE2
          have M := M2
          clear HE2 M2
          clear a0 a1 a2 a3 a4 a5 a6
          obtain ⟨a0, a1, a2, a3, a4, a5, a6⟩ := HKEEP.out w18 M.out
          obtain ⟨L2, hL2⟩ : ∃ l, [] ++ nb start 8 ++ nb eps 2 ++ nb wait 2 = l := ⟨_, rfl⟩
          have hL2l : L2.length = 12 := by rw [← hL2]; simp [nb_length]
          rw [hL2] at HE
          have HL2 := Lib.hid hL2
          have HL2L := Lib.hid hL2l
          clear hL2 hL2l
          go_wp2_with fail
          refine (encDone B2 b2 _ w18 HE.out.base (by rw [HL2L.out]; omega)).mono ?_
          rintro e w19 ⟨v19, rfl, hv, m19⟩
          have hv16 := (HV15.out.mod N.out (fun k _ h h2 => absurd (Nat.lt_of_lt_of_le h.2 h2) (Nat.lt_irrefl _))).modNil m19
          have el : nf + 32 = (F4 ++ Z).length := by rw [List.length_append, HNF.out, HZ.out]
          rw [el, ← bys_append] at hv16
          obtain ⟨v20, w20, hrun, hv20, m20⟩ := bytes_append 26 hv16 hv.row (by rw [← el, HL2L.out]; omega)
          have M20 := (M.out.thenNil m19).trans m20 (fun k _ h => Nat.le_trans HW12.out.1 h.1)
          have HFIN := Lib.hid (HPOST.out (.returned (.tuple #[v20, .int .i64 0])) w20 ⟨v20, by rw [HEF.out], by
            have hrow := hv20.mono (T := fun k => w.heap.size ≤ k) (fun k hk h => by
              have h1 := HW12.out
              have h2 := M.out.size
              have h3 := m19.size
              rcases h with h | h
              · have := h.1; omega
              · omega)
            have eb : (F4 ++ Z) ++ L2 = (encF ⟨deal, ps, ls, Z, start, eps, wait, dl⟩).1 := by
              rw [HEF.out, ← HL2.out, ← HF4.out, ← HF1.out]
              simp only [Pl.bytes, HNP.out, List.nil_append]
            rw [eb] at hrow
            exact hrow, HN.out _ M20⟩)
          have HRUN := Lib.hid hrun
          clear hrun hv20 m20 M20 el hv16 hv HE M N
          go_wp2_with (first | (at_builtin; refine wpList_append_run rfl _ _ _ _ rfl rfl rfl HRUN.out ?_))
          exact HFIN.out

end Go.Proofs.YtdfpmlfdmhlhcaaGreat

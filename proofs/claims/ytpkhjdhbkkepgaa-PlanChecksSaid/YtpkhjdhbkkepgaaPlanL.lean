/- plan.Decode. (Printed by wip/tools/gen_planl.py.) -/
import Derived.Test.YtpkhjdhbkkepgaaPlanK
import Derived.Test.YtpkhjdhbkkepgaaLawPlan
import Derived.Test.YtpkhjdhbkkepgaaCut
namespace Go.Proofs.Ytpkhjdhbkkepgaa
open Go.RowKit

theorem IsDec.mono {S T : Nat → Prop} {w : World} {b : Nat} {l : List UInt8} {e : Int} (h : IsDec S w b l e) (hs : ∀ k, k < w.heap.size → S k → T k) : IsDec T w b l e := by
  obtain ⟨p, q, h1, h2, h3, h4⟩ := h.ex
  exact ⟨p, q, h1, h2, h3, h4.mono hs⟩
theorem cellsItem (w : World) (x y z : Int) (g : Nat) (hg : w.heap.size = g) : IsCells (· = g) (w.alloc (.cells #[.int .i64 x, .int .i64 y, .int .i64 z] 64)) (.slice (some ⟨g, 0, none⟩) 1 1) 1 [.int .i64 x, .int .i64 y, .int .i64 z] := by
  subst hg
  have hb : (w.alloc (.cells #[.int .i64 x, .int .i64 y, .int .i64 z] 64)).heap[w.heap.size]? = some (.cells #[.int .i64 x, .int .i64 y, .int .i64 z] 64 (0, 0)) := heap_alloc_new _ _
  refine ⟨_, 1, rfl, fun i hi => ⟨w.heap.size, 0, rfl, rfl, heap_lt hb, ?_⟩⟩
  rw [Nat.zero_add, cell_of hb i]
  have hi : i < 3 := hi
  rcases (show i = 0 ∨ i = 1 ∨ i = 2 by omega) with rfl | rfl | rfl <;> rfl
theorem decInt (S : Nat → Prop) (b : Nat) (l : List UInt8) (er : Int) (size : Nat) (sz : Int) (w : World) {x e2 : Int} {l2 : List UInt8} (h : IsDec S w b l er) (hS : ¬ S b) (hs : sz = (size : Int)) (h1 : 1 ≤ size) (h8 : size ≤ 8) (hd : decN l er size = (x, l2, e2)) :
    Calls Try.prog 58 #[.pointer (some ⟨b, 0, none⟩), .int .i64 sz] w fun e w' => e = .returned (.int .i64 x) ∧ IsDec S w' b l2 e2 ∧ Mod (· = b) w w' := by
  subst hs
  have h := decNum S b l er size w h hS h1 h8
  rw [hd] at h
  exact h
theorem decLeft (S : Nat → Prop) (b : Nat) (l : List UInt8) (er : Int) (n : Nat) (w : World) (h : IsDec S w b l er) (hn : l.length = n) :
    Calls Try.prog 60 #[.pointer (some ⟨b, 0, none⟩)] w fun e w' => e = .returned (.int .i64 n) ∧ w = w' := by
  obtain ⟨p, q, h1, h2, h3, h4⟩ := h.ex
  rw [hn] at h3
  have c0 := cell_of h3 0
  simp only [List.getElem?_toArray, List.getElem?_cons_zero] at c0
  clear h h3 h4 hn h1
  go_enter Try.func60, Try.ntmps60
  go_wp2_with fail
  go_ret
  exact ⟨rfl, rfl⟩
theorem decErr (S : Nat → Prop) (b : Nat) (l : List UInt8) (er : Int) (w : World) (h : IsDec S w b l er) :
    Calls Try.prog 59 #[.pointer (some ⟨b, 0, none⟩)] w fun e w' => e = .returned (.int .i64 er) ∧ w = w' := by
  obtain ⟨p, q, h1, h2, h3, h4⟩ := h.ex
  have c1 := cell_of h3 1
  simp only [List.getElem?_toArray, List.getElem?_cons_zero, List.getElem?_cons_succ] at c1
  clear h h3 h4 h1
  go_enter Try.func59, Try.ntmps59
  go_wp2_with fail
  go_ret
  exact ⟨rfl, rfl⟩
theorem numF_lo (l : List UInt8) (s : Nat) : 0 ≤ (numF l s).1 := by
  unfold numF
  split
  · exact Int.le_refl _
  · split
    · exact Int.le_refl _
    · exact Int.natCast_nonneg _
theorem numF_hi (l : List UInt8) : (numF l 1).1 ≤ 255 := by
  unfold numF
  split
  · show (0 : Int) ≤ 255; decide
  · split
    · show (0 : Int) ≤ 255; decide
    · have := beN_take_lt l 1 (by omega)
      show (beN (l.take 1) : Int) ≤ 255
      omega
theorem decN_lo (l : List UInt8) (e : Int) (s : Nat) : 0 ≤ (decN l e s).1 := by
  unfold decN
  split
  · exact Int.le_refl _
  · split
    · exact Int.le_refl _
    · exact numF_lo l s
theorem decN_hi (l : List UInt8) (e : Int) : (decN l e 1).1 ≤ 255 := by
  unfold decN
  split
  · show (0 : Int) ≤ 255; decide
  · split
    · show (0 : Int) ≤ 255; decide
    · exact numF_hi l
theorem decN_len (l : List UInt8) (e : Int) (s : Nat) : (decN l e s).2.1.length ≤ l.length := by
  unfold decN
  split
  · exact Nat.le_refl _
  · split
    · exact Nat.le_refl _
    · simp only [List.length_drop]; omega
def partsF : Nat → List UInt8 → Int → List Int × List UInt8 × Int
  | 0, l, e => ([], l, e)
  | n + 1, l, e => if e = 0 then ((decN l 0 1).1 :: (partsF n (decN l 0 1).2.1 (decN l 0 1).2.2).1, (partsF n (decN l 0 1).2.1 (decN l 0 1).2.2).2) else ([], l, e)
theorem partsF_go {n : Nat} {l l2 : List UInt8} {x e2 : Int} (hn : 0 < n) (h : decN l 0 1 = (x, l2, e2)) : partsF n l 0 = (x :: (partsF (n - 1) l2 e2).1, (partsF (n - 1) l2 e2).2) := by
  obtain ⟨m, rfl⟩ : ∃ m, n = m + 1 := ⟨n - 1, by omega⟩
  simp [partsF, h]
theorem partsF_end {n : Nat} {l : List UInt8} {e : Int} (h : n = 0 ∨ e ≠ 0) : partsF n l e = ([], l, e) := by
  cases n with
  | zero => rfl
  | succ n => rcases h with h | h <;> simp_all [partsF]
theorem partsF_length : ∀ (n : Nat) (l : List UInt8) (e : Int), (partsF n l e).1.length ≤ n
  | 0, l, e => by simp [partsF]
  | n + 1, l, e => by
    unfold partsF
    split
    · simpa using partsF_length n _ _
    · simp
def itemsF : Nat → List UInt8 → Int → List It × List UInt8 × Int
  | 0, l, e => ([], l, e)
  | n + 1, l, e => if e = 0 then
      let a := decN l 0 1
      let b := decN a.2.1 a.2.2 1
      let c := decN b.2.1 b.2.2 8
      (⟨a.1, b.1, c.1⟩ :: (itemsF n c.2.1 c.2.2).1, (itemsF n c.2.1 c.2.2).2)
    else ([], l, e)
theorem itemsF_go {n : Nat} {l la lb lc : List UInt8} {x y z ea eb ec : Int} (hn : 0 < n) (h1 : decN l 0 1 = (x, la, ea)) (h2 : decN la ea 1 = (y, lb, eb)) (h3 : decN lb eb 8 = (z, lc, ec)) : itemsF n l 0 = (⟨x, y, z⟩ :: (itemsF (n - 1) lc ec).1, (itemsF (n - 1) lc ec).2) := by
  obtain ⟨m, rfl⟩ : ∃ m, n = m + 1 := ⟨n - 1, by omega⟩
  simp [itemsF, h1, h2, h3]
theorem itemsF_end {n : Nat} {l : List UInt8} {e : Int} (h : n = 0 ∨ e ≠ 0) : itemsF n l e = ([], l, e) := by
  cases n with
  | zero => rfl
  | succ n => rcases h with h | h <;> simp_all [itemsF]
theorem itemsF_length : ∀ (n : Nat) (l : List UInt8) (e : Int), (itemsF n l e).1.length ≤ n
  | 0, l, e => by simp [itemsF]
  | n + 1, l, e => by
    unfold itemsF
    split
    · simpa using itemsF_length n _ _
    · simp
def legsF : Nat → List UInt8 → Int → List (List It) × List UInt8 × Int
  | 0, l, e => ([], l, e)
  | n + 1, l, e =>
    let k := decN l e 1
    let r := itemsF k.1.toNat k.2.1 k.2.2
    (r.1 :: (legsF n r.2.1 r.2.2).1, (legsF n r.2.1 r.2.2).2)
theorem legsF_go {n k : Nat} {l l2 l3 : List UInt8} {e e2 e3 : Int} {x : List It} (hn : 0 < n) (h : decN l e 1 = ((k : Int), l2, e2)) (h2 : itemsF k l2 e2 = (x, l3, e3)) : legsF n l e = (x :: (legsF (n - 1) l3 e3).1, (legsF (n - 1) l3 e3).2) := by
  obtain ⟨m, rfl⟩ : ∃ m, n = m + 1 := ⟨n - 1, by omega⟩
  simp [legsF, h, h2]
theorem itemsF_len : ∀ (n : Nat) (l : List UInt8) (e : Int), (itemsF n l e).2.1.length ≤ l.length
  | 0, l, e => Nat.le_refl _
  | n + 1, l, e => by
    unfold itemsF
    split
    · have h1 := decN_len l 0 1
      have h2 := decN_len (decN l 0 1).2.1 (decN l 0 1).2.2 1
      have h3 := decN_len (decN (decN l 0 1).2.1 (decN l 0 1).2.2 1).2.1 (decN (decN l 0 1).2.1 (decN l 0 1).2.2 1).2.2 8
      have h4 := itemsF_len n (decN (decN (decN l 0 1).2.1 (decN l 0 1).2.2 1).2.1 (decN (decN l 0 1).2.1 (decN l 0 1).2.2 1).2.2 8).2.1 (decN (decN (decN l 0 1).2.1 (decN l 0 1).2.2 1).2.1 (decN (decN l 0 1).2.1 (decN l 0 1).2.2 1).2.2 8).2.2
      simp only
      omega
    · exact Nat.le_refl _
/-- the plan of parts, if its bytes are these -/
def decT (b : List UInt8) (deal : Int) (ps : List Int) (ls : List (List It)) : Pl × Int :=
  let A := b.length - 44
  let s0 := decN (b.drop (A + 32)) 0 8
  let s1 := decN s0.2.1 s0.2.2 2
  let s2 := decN s1.2.1 s1.2.2 2
  let M := makeN deal ps ls ((b.drop A).take 32) s0.1 s1.1 s2.1
  if M.2 = 0 ∧ encF M.1 = (b, 0) then (M.1, 0) else (Pl.zero, 2)
def decF (b : List UInt8) : Pl × Int :=
  let d0 := decN b 0 2
  let d1 := decN d0.2.1 d0.2.2 1
  let ps := partsF d1.1.toNat d1.2.1 d1.2.2
  let ls := legsF ps.1.length ps.2.1 ps.2.2
  if ls.2.2 ≠ 0 ∨ ls.2.1.length ≠ 44 then (Pl.zero, 2) else decT b d0.1 ps.1 ls.1
set_option maxRecDepth 100000 in
set_option maxHeartbeats 8000000 in
theorem planDecode (T : Nat → Prop) (p : Option Addr) (N c : Nat) (b : List UInt8) (w : World) (hrow : IsRow T w (.slice p N c) (bys b)) (hN : N ≤ 1000000) (hc : N ≤ c) (hcm : c ≤ maxLen) :
    Calls Try.prog 28 #[.slice p N c] w fun e w' => ∃ v, e = .returned (.tuple #[v, .int .i64 (decF b).2]) ∧ IsPl (fun k => w.heap.size ≤ k) w' v (decF b).1 ∧ Mod nil w w' := by
  refine (?_ : ∀ Post : Ending → World → Prop, Hid (∀ e w', (∃ v, e = .returned (.tuple #[v, .int .i64 (decF b).2]) ∧ IsPl (fun k => w.heap.size ≤ k) w' v (decF b).1 ∧ Mod nil w w') → Post e w') → Calls Try.prog 28 #[.slice p N c] w Post) _ (Lib.hid (fun _ _ h => h))
  intro Post HPOST
  obtain ⟨G, hG⟩ : ∃ r, w.heap.size = r := ⟨_, rfl⟩
  have HROW := Lib.hid hrow
  have hnb : b.length = N := by obtain ⟨_, _, h, _⟩ := hrow; simp only [Value.slice.injEq, bys_length] at h; exact h.2.1.symm
  have HNB := Lib.hid hnb
  clear hrow hnb
  go_enter Try.func28, Try.ntmps28
  go_upto_region 1 with (fail)
  (try rw [hG])
  generalize hw1 : World.alloc w _ = w1
  have hm1 : Mod nil w w1 := by rw [← hw1]; exact (Mod.refl _ _).alloc _
  have hb1 : w1.heap[G]? = some (.cells #[.int .i64 0, .slice none 0 0, .slice none 0 0, .string ⟨#[]⟩, .int .i64 0, .int .i64 0, .int .i64 0, .slice none 0 0] 30 (0, 0)) := by rw [← hw1, ← hG]; exact heap_alloc_new _ _
  have hG1 : G < w1.heap.size := heap_lt hb1
  have HZ1 := Lib.hid hb1
  have HM1 := Lib.hid hm1
  have HGE : Hid (w.heap.size ≤ G) := Lib.hid (by omega)
  have HFAIL : Hid (decF b = (Pl.zero, 2) → ∀ W, Mod (fun k => G < k) w1 W → W.heap[G]? = some (.cells #[.int .i64 0, .slice none 0 0, .slice none 0 0, .string ⟨#[]⟩, .int .i64 0, .int .i64 0, .int .i64 0, .slice none 0 0] 30 (0, 0)) ∧ Post (.returned (.tuple #[.agg #[.int .i64 0, .slice none 0 0, .slice none 0 0, .string ⟨#[]⟩, .int .i64 0, .int .i64 0, .int .i64 0, .slice none 0 0], .int .i64 2])) (W.setRow G #[.int .i64 0, .slice none 0 0, .slice none 0 0, .string ⟨#[]⟩, .int .i64 0, .int .i64 0, .int .i64 0, .slice none 0 0])) := Lib.hid (fun he W hm => ⟨(hm.block G hG1 (fun h => Nat.lt_irrefl _ h)).trans HZ1.out, HPOST.out _ _ ⟨_, by rw [he], by rw [he]; exact IsPl.zero _ _, (HM1.out.new hm (fun k h => by have := HGE.out; have h : G < k := h; omega)).trans ((Mod.refl (· = G) W).rowSet G _ (fun _ => rfl)) (fun k hk e => by have := HGE.out; omega)⟩⟩)
  clear hw1 hm1 hb1 hG
  go_wp2_with fail
  refine (wireNewDec T _ b w1 (HROW.out.modNil HM1.out) (by rw [HNB.out]; omega)).mono ?_
  rintro e w2 ⟨db, rfl, hdb, hdec, m2⟩
  have hdbG : G < db := by omega
  have hdbl := hdec.lt
  have HX : Hid (Mod (fun k => G < k) w1 w2) := Lib.hid m2.ofNil
  have hs2 := m2.size
  clear m2 hdb
  obtain ⟨deal, l1, e1, hd0⟩ : ∃ x l2 e2, decN b 0 2 = (x, l2, e2) := ⟨_, _, _, rfl⟩
  obtain ⟨x1, l2, e2, hd1⟩ : ∃ x l2 e2, decN l1 e1 1 = (x, l2, e2) := ⟨_, _, _, rfl⟩
  have lo1 : 0 ≤ x1 := by have h := decN_lo l1 e1 1; rw [hd1] at h; exact h
  have hi1 : x1 ≤ 255 := by have h := decN_hi l1 e1; rw [hd1] at h; exact h
  obtain ⟨n0, rfl⟩ := Int.eq_ofNat_of_zero_le lo1
  have HD0 := Lib.hid hd0
  have HD1 := Lib.hid hd1
  clear lo1 hd0 hd1
  go_wp2_with fail
  refine (decInt _ db b 0 2 2 w2 hdec (fun h => h.2 rfl) rfl (by omega) (by omega) HD0.out).mono ?_
  rintro e' w3 ⟨rfl, hdec3, m2⟩
  have HXx := Lib.hid (HX.out.trans m2 (fun k _ (e : k = db) => by show G < k; omega))
  clear HX
  have HX := HXx
  clear HXx
  have hs3 := m2.size
  clear m2 hdec
  go_upto_region 3 with (fail)
  obtain ⟨pb, hpb⟩ : ∃ r, w3.heap.size = r := ⟨_, rfl⟩
  (try rw [hpb])
  generalize hw4 : World.alloc w3 _ = w4
  have hm4 : Mod nil w3 w4 := by rw [← hw4]; exact (Mod.refl _ _).alloc _
  have hb4 : w4.heap[pb]? = some (.cells #[.int .i64 deal, .slice none 0 0, .slice none 0 0, .string ⟨#[]⟩, .int .i64 0, .int .i64 0, .int .i64 0, .slice none 0 0] 30 (0, 0)) := by rw [← hw4, ← hpb]; exact heap_alloc_new _ _
  have hdp : db < pb := by omega
  have HD : Hid (IsDec (fun k => k < pb ∧ k ≠ db) w4 db l1 e1) := Lib.hid ((hdec3.mono (T := fun k => k < pb ∧ k ≠ db) (fun k hk h => ⟨by omega, h.2⟩)).mod hm4 (fun h => h) (fun _ _ _ h => h))
  have HB := Lib.hid hb4
  have HV : Hid (IsVec (fun k => pb < k) w4 3 1 (.slice none 0 0) 0 (([] : List Int).map (.int .i64))) := Lib.hid (IsVec.nil _ _ _ _)
  have HXx := Lib.hid (HX.out.thenNil hm4)
  clear HX
  have HX := HXx
  clear HXx hw4 hm4 hb4 hpb hdec3 hs2 hs3 hdbl
  go_wp2_with fail
  refine (decInt _ db l1 e1 1 1 w4 HD.out (fun h => h.2 rfl) rfl (by omega) (by omega) HD1.out).mono ?_
  rintro e' w5 ⟨rfl, hdx, m2⟩
  have HDx := Lib.hid hdx
  clear HD hdx
  have HD := HDx
  clear HDx
  have HB2 := Lib.hid ((m2.block pb (heap_lt HB.out) (by omega)).trans HB.out)
  clear HB
  have HB := HB2
  clear HB2
  have HV2 := Lib.hid (HV.out.mod m2 (fun k _ h (e : k = db) => by have := h; omega))
  clear HV
  have HV := HV2
  clear HV2
  have HX2 := Lib.hid (HX.out.trans m2 (fun k _ (e : k = db) => by show G < k; omega))
  clear HX
  have HX := HX2
  clear HX2
  clear m2
  go_wp2_with fail
  go_loopw [6] (fun v wr => ∃ (n m : Nat) (l : List UInt8) (e : Int) (pp : Option Addr) (cc : Nat) (acc : List Int), v = .int .i64 n ∧ n ≤ 255 ∧ m + n ≤ 255 ∧ Hid (partsF n0 l2 e2 = (acc ++ (partsF n l e).1, (partsF n l e).2)) ∧ Hid (l.length ≤ l2.length) ∧ Hid (IsDec (fun k => k < pb ∧ k ≠ db) wr db l e) ∧ Hid (wr.heap[pb]? = some (.cells #[.int .i64 deal, .slice pp m cc, .slice none 0 0, .string ⟨#[]⟩, .int .i64 0, .int .i64 0, .int .i64 0, .slice none 0 0] 30 (0, 0))) ∧ Hid (IsVec (fun k => pb < k) wr 3 1 (.slice pp m cc) m (acc.map (.int .i64))) ∧ Hid (Mod (fun k => G < k) w1 wr)) (fun v _ => (intOf v).toNat)
  case atStart => exact ⟨n0, 0, l2, e2, none, 0, [], rfl, by omega, by omega, Lib.hid rfl, Lib.hid (Nat.le_refl _), HD, HB, HV, HX⟩
  case round =>
    clear HD HB HV HX
    obtain ⟨n, m, l, e, pp, cc, acc, rfl, hn, hnm, HP, HLL, HD, HB, HV, HX⟩ := hrel
    have hpbl := heap_lt HB.out
    obtain ⟨g, hg⟩ : ∃ g, decide (0 < n ∧ e = 0) = g := ⟨_, rfl⟩
    have HGT := Lib.hid hg
    clear hg
    go_upto_region 4 with (fail)
    go_cut [21, 22, 23, 24, 25, 26, 27] from 128 (fun _ _ _ _ _ _ s wx => wr = wx ∧ s = .bool g)
    case first =>
      by_cases hn0 : 0 < n
      · have hcmp : decide (0 < n) = true := decide_eq_true hn0
        by_cases he : e = 0
        · subst he
          obtain rfl : true = g := by rw [← HGT.out]; simp [hn0]
          go_wp2_with fail
          refine (decErr _ db l 0 wr HD.out).mono ?_
          rintro e'' w' ⟨rfl, rfl⟩
          go_wp2_with fail
          go_meet
          exact ⟨rfl, rfl⟩
        · obtain rfl : false = g := by rw [← HGT.out]; simp [he]
          have hb : (e == 0) = false := by simp [he]
          go_wp2_with fail
          refine (decErr _ db l e wr HD.out).mono ?_
          rintro e'' w' ⟨rfl, rfl⟩
          go_wp2_with fail
          go_meet
          exact ⟨rfl, rfl⟩
      · obtain rfl : n = 0 := by omega
        obtain rfl : false = g := by rw [← HGT.out]; simp
        go_wp2_with fail
        go_meet
        exact ⟨rfl, rfl⟩
    case rest =>
    obtain ⟨rfl, rfl⟩ := hcut
    by_cases hgo : 0 < n ∧ e = 0
    · obtain rfl : true = g := by rw [← HGT.out]; exact (decide_eq_true hgo).symm
      obtain ⟨hn0, rfl⟩ := hgo
      obtain ⟨x, l', e', hdn⟩ : ∃ x l2 e2, decN l 0 1 = (x, l2, e2) := ⟨_, _, _, rfl⟩
      have HDN := Lib.hid hdn
      have c1 := cell_of HB.out 1
      simp only [List.getElem?_toArray, List.getElem?_cons_zero, List.getElem?_cons_succ] at c1
      have HPN : Hid (partsF n0 l2 e2 = ((acc ++ [x]) ++ (partsF (n - 1) l' e').1, (partsF (n - 1) l' e').2)) := Lib.hid (by
        rw [HP.out, partsF_go hn0 hdn]
        simp)
      have HLN : Hid (l'.length ≤ l2.length) := Lib.hid (by have h := decN_len l 0 1; rw [hdn] at h; exact Nat.le_trans h HLL.out)
      clear hdn HP HLL HGT
      go_upto_region 6 with (fail)
      refine region_till (fun w' => w'.cell? ⟨pb, 1, none⟩ = some (.slice pp m cc)) 7 (by kernel_rfl) ?_
      refine till_free (i := 0) (v := ?_) rfl (by kernel_rfl) (by kernel_rfl) (by kernel_rfl) (by kernel_rfl) (fun _ _ _ h => h) (Or.inl ⟨by kernel_rfl, ?_⟩) (fun _ => c1) ?_
      rotate_left
      · intro w _; (first | (go_simp; done) | (go_simp; with_reducible rfl))
      (try simp only [Act.put]); (try simp only [List.setIfInBounds_toArray])
      refine till_take (i := 1) (v := ?_) rfl (by kernel_rfl) (by kernel_rfl) (by kernel_rfl) (by kernel_rfl) (by kernel_rfl) (by kernel_rfl) (fun _ _ _ h => h) (Or.inl ⟨by kernel_rfl, ?_⟩) (c1) ?_
      rotate_left
      · intro w hSw; (try dsimp only at hSw); (first | (go_simp; done) | (go_simp; with_reducible rfl))
      (try simp only [Act.put]); (try simp only [List.setIfInBounds_toArray])
      refine till_free (i := 2) (v := ?_) rfl (by kernel_rfl) (by kernel_rfl) (by kernel_rfl) (by kernel_rfl) (fun _ _ _ h => h) (Or.inl ⟨by kernel_rfl, ?_⟩) (fun _ => c1) ?_
      rotate_left
      · intro w _; (first | (go_simp; done) | (go_simp; with_reducible rfl))
      (try simp only [Act.put]); (try simp only [List.setIfInBounds_toArray])
      refine till_ready (rs := [3]) (by kernel_rfl) (by simp) ?_
      refine till_cons (i := 3) rfl (fun K hK => ?_) till_nil
      (try dsimp (config := { proj := false }) only [List.getElem_toArray, List.getElem_cons_succ, List.getElem_cons_zero])
      go_simp
      refine (decInt _ db l 0 1 1 _ (HD.out.mod ((Mod.refl nil wr).drew) (fun h => h) (fun _ _ _ h => h)) (fun h => h.2 rfl) rfl (by omega) (by omega) HDN.out).mono ?_
      rintro e' w6 ⟨rfl, hdx, m2⟩
      have m2 : Mod (· = db) wr w6 := (show Mod nil wr wr.drew from (Mod.refl nil wr).drew).ofNil.trans m2 (fun _ _ h => h)
      have HDx := Lib.hid hdx
      clear HD hdx
      have HD := HDx
      clear HDx
      have HB2 := Lib.hid ((m2.block pb (heap_lt HB.out) (by omega)).trans HB.out)
      clear HB
      have HB := HB2
      clear HB2
      have HV2 := Lib.hid (HV.out.mod m2 (fun k _ h (e : k = db) => by have := h; omega))
      clear HV
      have HV := HV2
      clear HV2
      have HX2 := Lib.hid (HX.out.trans m2 (fun k _ (e : k = db) => by show G < k; omega))
      clear HX
      have HX := HX2
      clear HX2
      have c1' := cell_of HB.out 1
      simp only [List.getElem?_toArray, List.getElem?_cons_zero, List.getElem?_cons_succ] at c1'
      clear m2
      refine hK.out _ _ (fun _ => c1') ?_
      clear hK K
      (try simp only [Act.put, List.setIfInBounds_toArray, List.set_cons_zero, List.set_cons_succ])
      refine till_ready (rs := [4]) (by kernel_rfl) (by simp) ?_
      refine till_cons (i := 4) rfl (fun K hK => ?_) till_nil
      (try dsimp (config := { proj := false }) only [List.getElem_toArray, List.getElem_cons_succ, List.getElem_cons_zero])
      go_simp
      obtain ⟨g6, hg6⟩ : ∃ g, w6.heap.size = g := ⟨_, rfl⟩
      (try rw [hg6])
      generalize hw7 : World.alloc w6 _ = w7
      have m7 : Mod nil w6 w7 := by rw [← hw7]; exact (Mod.refl _ _).alloc _
      have hx7 : IsCells (· = g6) w7 (.slice (some ⟨g6, 0, none⟩) 1 1) 1 [.int .i64 x] := by rw [← hw7]; exact cells_one_at w6 _ _ g6 hg6
      have HBx := Lib.hid (m7.keep HB.out)
      have HVx := Lib.hid (HV.out.modNil m7)
      have HDx := Lib.hid (HD.out.mod m7 (fun h => h) (fun _ _ _ h => h))
      have HXx := Lib.hid (HX.out.thenNil m7)
      clear HB HV HD HX
      have HB := HBx
      have HV := HVx
      have HD := HDx
      have HX := HXx
      clear HBx HVx HDx HXx hw7 m7 hg6
      have c1'' := cell_of HB.out 1
      simp only [List.getElem?_toArray, List.getElem?_cons_zero, List.getElem?_cons_succ] at c1''
      refine hK.out _ _ (fun _ => c1'') ?_
      clear hK K
      (try simp only [Act.put, List.setIfInBounds_toArray, List.set_cons_zero, List.set_cons_succ])
      refine till_ready (rs := [5]) (by kernel_rfl) (by simp) ?_
      refine till_cons (i := 5) rfl (fun K hK => ?_) till_nil
      (try dsimp (config := { proj := false }) only [List.getElem_toArray, List.getElem_cons_succ, List.getElem_cons_zero])
      obtain ⟨i0, hi0, hz0, hz1, hz2⟩ := info_parts info_int
      refine step_append_vec (S := fun k => pb < k) rfl _ _ _ rfl 3 i0 _ 1 8 Try.underlying22 hi0 hz0 hz1 hz2 rfl (by omega) _ m (acc.map (.int .i64)) rfl HV.out _ 1 _ rfl hx7 rfl (by intro u hu; rw [List.mem_singleton.1 hu]; rfl) (by unfold maxLen; omega) (by omega) ?_
      intro v8 w8 hv8 m8
      obtain ⟨p8, q8, rfl⟩ := hv8.form
      have HBx := Lib.hid ((m8.block pb (heap_lt HB.out) (fun h => Nat.lt_irrefl _ h)).trans HB.out)
      have HVx : Hid (IsVec (fun k => pb < k) w8 3 1 (.slice p8 (m + 1) q8) (m + 1) ((acc ++ [x]).map (.int .i64))) := Lib.hid (by
        rw [List.map_append]
        exact hv8.mono (fun k hk h => h.elim id (fun h => by have := heap_lt HB.out; omega)))
      have HDx := Lib.hid (HD.out.mod m8 (fun h => by have h : pb < db := h; omega) (fun k _ h1 h2 => by have := h1.1; have h2 : pb < k := h2; omega))
      have HXx := Lib.hid (HX.out.trans m8 (fun k _ h => by have h : pb < k := h; show G < k; omega))
      clear HB HV HD HX hv8 m8 hi0 hz0 hz1 hz2 hx7
      have HB := HBx
      have HV := HVx
      have HD := HDx
      have HX := HXx
      clear HBx HVx HDx HXx
      have c8 := cell_of HB.out 1
      have z8 := free_of HB.out 1
      simp only [List.getElem?_toArray, List.getElem?_cons_zero, List.getElem?_cons_succ] at c8
      refine hK.out _ _ (fun _ => c8) ?_
      clear hK K
      (try simp only [Act.put, List.setIfInBounds_toArray, List.set_cons_zero, List.set_cons_succ])
      refine till_free (i := 6) (v := ?_) rfl (by kernel_rfl) (by kernel_rfl) (by kernel_rfl) (by kernel_rfl) (fun _ _ _ h => h) (Or.inl ⟨by kernel_rfl, ?_⟩) (fun _ => c8) ?_
      rotate_left
      · intro w _; (first | (go_simp; done) | (go_simp; with_reducible rfl))
      (try simp only [Act.put]); (try simp only [List.setIfInBounds_toArray])
      refine till_ready (rs := [7]) (by kernel_rfl) (by simp) ?_
      refine till_cons (i := 7) rfl (fun K hK => ?_) till_nil
      (try dsimp (config := { proj := false }) only [List.getElem_toArray, List.getElem_cons_succ, List.getElem_cons_zero])
      go_simp
      refine hK.out _ _ (fun h => (by simp at h)) ?_
      clear hK K
      (try simp only [Act.put, List.setIfInBounds_toArray, List.set_cons_zero, List.set_cons_succ])
      refine till_done (by kernel_rfl) ?_ _
      clear c1 c1' c1'' m2
      generalize hw9 : World.setCell w8 _ _ = w9
      have m9 : Mod (· = pb) w8 w9 := by rw [← hw9]; exact (Mod.refl (· = pb) w8).setCell _ _ (fun _ => rfl)
      have HB9 : Hid (w9.heap[pb]? = some (.cells #[.int .i64 deal, .slice p8 (m + 1) q8, .slice none 0 0, .string ⟨#[]⟩, .int .i64 0, .int .i64 0, .int .i64 0, .slice none 0 0] 30 (0, 0))) := Lib.hid (by rw [← hw9]; exact heap_setCell_same HB.out _ (off := 1))
      have HV9 := Lib.hid (HV.out.mod m9 (fun k _ h (e : k = pb) => by have h : pb < k := h; omega))
      have HD9 := Lib.hid (HD.out.mod m9 (fun (h : db = pb) => by omega) (fun k _ h (e : k = pb) => by have := h.1; omega))
      have HX9 := Lib.hid (HX.out.trans m9 (fun k _ (e : k = pb) => by show G < k; omega))
      clear hw9 m9 c8 z8 HB HV HD HX
      go_wp2_with fail
      exact ⟨⟨n - 1, m + 1, l', e', p8, q8, acc ++ [x], by go_num, by omega, by omega, HPN, HLN, HD9, HB9, HV9, HX9⟩, by simp [intOf]; omega⟩
    · obtain rfl : false = g := by rw [← HGT.out]; exact (decide_eq_false hgo).symm
      have HPE : Hid (partsF n0 l2 e2 = (acc, l, e)) := Lib.hid (by
        have h := partsF_end (n := n) (l := l) (e := e) (by by_cases h : n = 0
                                                            · exact .inl h
                                                            · exact .inr (fun h2 => hgo ⟨by omega, h2⟩))
        rw [HP.out, h]
        simp)
      have hm255 : m ≤ 255 := by omega
      have HPEA := HPE
      have HLLA := HLL
      clear HPE HLL
      clear hgo HP HGT hnm
      obtain ⟨l3, rfl⟩ : ∃ x, x = l := ⟨_, rfl⟩
      obtain ⟨e3, rfl⟩ : ∃ x, x = e := ⟨_, rfl⟩
      obtain ⟨w9, rfl⟩ : ∃ x, x = wr := ⟨_, rfl⟩
      clear hn
      have hpsl : acc.length = m := by have h := HV.out.len; rw [List.length_map] at h; omega
      have HPSL := Lib.hid hpsl
      clear hpsl
      obtain ⟨H2, hH2⟩ : ∃ h, w9.heap.size = h := ⟨_, rfl⟩
      have hpH : pb < H2 := by omega
      have HVF : Hid (IsVec (fun k => pb < k ∧ k < H2) w9 3 1 (.slice pp m cc) m (acc.map (.int .i64))) := Lib.hid (HV.out.mono (fun k hk h => ⟨h, by omega⟩))
      have HL : Hid (IsLegsV (fun k => H2 ≤ k) w9 (.slice none 0 0) 0 []) := Lib.hid (IsLegsV.nil _ _)
      have c1 := cell_of HB.out 1
      simp only [List.getElem?_toArray, List.getElem?_cons_zero, List.getElem?_cons_succ] at c1
      have HS0 : Hid (H2 ≤ w9.heap.size) := Lib.hid (by omega)
      clear HV hH2 hpbl
      go_wp2_with fail
      clear c1
      go_loopw [40] (fun v wr => ∃ (i : Nat) (l : List UInt8) (e : Int) (ql : Option Addr) (cl : Nat) (ls : List (List It)), v = .int .i64 i ∧ i ≤ m ∧ Hid (legsF m l3 e3 = (ls ++ (legsF (m - i) l e).1, (legsF (m - i) l e).2)) ∧ Hid (l.length ≤ l3.length) ∧ Hid (∀ x ∈ ls, x.length ≤ 255) ∧ Hid (H2 ≤ wr.heap.size) ∧ Hid (IsDec (fun k => k < pb ∧ k ≠ db) wr db l e) ∧ Hid (wr.heap[pb]? = some (.cells #[.int .i64 deal, .slice pp m cc, .slice ql i cl, .string ⟨#[]⟩, .int .i64 0, .int .i64 0, .int .i64 0, .slice none 0 0] 30 (0, 0))) ∧ Hid (IsVec (fun k => pb < k ∧ k < H2) wr 3 1 (.slice pp m cc) m (acc.map (.int .i64))) ∧ Hid (IsLegsV (fun k => H2 ≤ k) wr (.slice ql i cl) i ls) ∧ Hid (Mod (fun k => G < k) w1 wr)) (fun v _ => m - (intOf v).toNat)
      case atStart => exact ⟨0, l3, e3, none, 0, [], rfl, by omega, Lib.hid rfl, Lib.hid (Nat.le_refl _), Lib.hid (fun x hx => by simp at hx), HS0, HD, HB, HVF, HL, HX⟩
      case round =>
        clear HD HB HVF HL HX
        obtain ⟨i, l, e, ql, cl, ls, rfl, hi, HP, HLL, HLB, HS, HD, HB, HVF, HL, HX⟩ := hrel
        by_cases hlt : i < m
        · obtain ⟨x1, l', e', hd1⟩ : ∃ x l2 e2, decN l e 1 = (x, l2, e2) := ⟨_, _, _, rfl⟩
          have lo1 : 0 ≤ x1 := by have h := decN_lo l e 1; rw [hd1] at h; exact h
          have hi1 : x1 ≤ 255 := by have h := decN_hi l e; rw [hd1] at h; exact h
          obtain ⟨k0, rfl⟩ := Int.eq_ofNat_of_zero_le lo1
          have HDN := Lib.hid hd1
          have hl' : l'.length ≤ l.length := by have h := decN_len l e 1; rw [hd1] at h; exact h
          have HLN : Hid (l'.length ≤ l3.length) := Lib.hid (Nat.le_trans hl' HLL.out)
          clear lo1 hd1 hl' HLL
          obtain ⟨wa, rfl⟩ : ∃ x, x = wr := ⟨_, rfl⟩
          have hsa := HS.out
          go_wp2_with fail
          refine (decInt _ db l e 1 1 wa HD.out (fun h => h.2 rfl) rfl (by omega) (by omega) HDN.out).mono ?_
          rintro e' w10 ⟨rfl, hdx, m2⟩
          have HDx := Lib.hid hdx
          clear HD hdx
          have HD := HDx
          clear HDx
          have HB2 := Lib.hid ((m2.block pb (heap_lt HB.out) (by omega)).trans HB.out)
          clear HB
          have HB := HB2
          clear HB2
          have HVF2 := Lib.hid (HVF.out.mod m2 (fun k _ h (e : k = db) => by have := h.1; omega))
          clear HVF
          have HVF := HVF2
          clear HVF2
          have HL2 := Lib.hid (HL.out.mod m2 (fun k _ h (e : k = db) => by have := h; omega))
          clear HL
          have HL := HL2
          clear HL2
          have HX2 := Lib.hid (HX.out.trans m2 (fun k _ (e : k = db) => by show G < k; omega))
          clear HX
          have HX := HX2
          clear HX2
          have hs10 := m2.size
          clear m2
          obtain ⟨Hr, hHr⟩ : ∃ h, w10.heap.size = h := ⟨_, rfl⟩
          have hH2r : H2 ≤ Hr := by omega
          have hpr : pb < Hr := by have := heap_lt HB.out; omega
          have HLF : Hid (IsLegsV (fun k => H2 ≤ k ∧ k < Hr) w10 (.slice ql i cl) i ls) := Lib.hid (HL.out.mono (fun k hk h => ⟨h, by omega⟩))
          have HI : Hid (IsVec (fun k => Hr ≤ k) w10 64 3 (.slice none 0 0) 0 (its [])) := Lib.hid (IsVec.nil _ _ _ _)
          clear HL hsa hs10 HS
          have HS : Hid (Hr ≤ w10.heap.size) := Lib.hid (by omega)
          clear hHr
          go_wp2_with fail
          go_loopw [7, 8] (fun v7 v8 wr => ∃ (n j : Nat) (l : List UInt8) (e : Int) (qi : Option Addr) (ci : Nat) (is : List It), v8 = .int .i64 n ∧ v7 = .slice qi j ci ∧ n ≤ 255 ∧ j + n ≤ 255 ∧ Hid (itemsF k0 l' e' = (is ++ (itemsF n l e).1, (itemsF n l e).2)) ∧ Hid (l.length ≤ l'.length) ∧ Hid (is.length = j) ∧ Hid (Hr ≤ wr.heap.size) ∧ Hid (IsDec (fun k => k < pb ∧ k ≠ db) wr db l e) ∧ Hid (wr.heap[pb]? = some (.cells #[.int .i64 deal, .slice pp m cc, .slice ql i cl, .string ⟨#[]⟩, .int .i64 0, .int .i64 0, .int .i64 0, .slice none 0 0] 30 (0, 0))) ∧ Hid (IsVec (fun k => pb < k ∧ k < H2) wr 3 1 (.slice pp m cc) m (acc.map (.int .i64))) ∧ Hid (IsLegsV (fun k => H2 ≤ k ∧ k < Hr) wr (.slice ql i cl) i ls) ∧ Hid (IsVec (fun k => Hr ≤ k) wr 64 3 (.slice qi j ci) j (its is)) ∧ Hid (Mod (fun k => G < k) w1 wr)) (fun _ v _ => (intOf v).toNat)
          case atStart => exact ⟨k0, 0, l', e', none, 0, [], rfl, rfl, by omega, by omega, Lib.hid rfl, Lib.hid (Nat.le_refl _), Lib.hid rfl, HS, HD, HB, HVF, HLF, HI, HX⟩
          case round =>
            clear HD HB HVF HLF HI HX HS
            obtain ⟨n, j, l, e, qi, ci, is, rfl, rfl, hn, hjn, HPI, HLI, HIL, HS, HD, HB, HVF, HLF, HI, HX⟩ := hrel
            obtain ⟨g, hg⟩ : ∃ g, decide (0 < n ∧ e = 0) = g := ⟨_, rfl⟩
            have HGT := Lib.hid hg
            clear hg
            go_upto_region 11 with (fail)
            go_cut [44, 45, 46, 47, 48, 49, 50] from 128 (fun _ _ _ _ _ _ s wx => wr = wx ∧ s = .bool g)
            case first =>
              by_cases hn0 : 0 < n
              · have hcmp : decide (0 < n) = true := decide_eq_true hn0
                by_cases he : e = 0
                · subst he
                  obtain rfl : true = g := by rw [← HGT.out]; simp [hn0]
                  go_wp2_with fail
                  refine (decErr _ db l 0 wr HD.out).mono ?_
                  rintro e'' w' ⟨rfl, rfl⟩
                  go_wp2_with fail
                  go_meet
                  exact ⟨rfl, rfl⟩
                · obtain rfl : false = g := by rw [← HGT.out]; simp [he]
                  have hb : (e == 0) = false := by simp [he]
                  go_wp2_with fail
                  refine (decErr _ db l e wr HD.out).mono ?_
                  rintro e'' w' ⟨rfl, rfl⟩
                  go_wp2_with fail
                  go_meet
                  exact ⟨rfl, rfl⟩
              · obtain rfl : n = 0 := by omega
                obtain rfl : false = g := by rw [← HGT.out]; simp
                go_wp2_with fail
                go_meet
                exact ⟨rfl, rfl⟩
            case rest =>
            obtain ⟨rfl, rfl⟩ := hcut
            by_cases hgo : 0 < n ∧ e = 0
            · obtain rfl : true = g := by rw [← HGT.out]; exact (decide_eq_true hgo).symm
              obtain ⟨hn0, rfl⟩ := hgo
              obtain ⟨x, la, ea, hda⟩ : ∃ x l2 e2, decN l 0 1 = (x, l2, e2) := ⟨_, _, _, rfl⟩
              obtain ⟨y, lb, eb, hdb⟩ : ∃ x l2 e2, decN la ea 1 = (x, l2, e2) := ⟨_, _, _, rfl⟩
              obtain ⟨z, lc, ec, hdc⟩ : ∃ x l2 e2, decN lb eb 8 = (x, l2, e2) := ⟨_, _, _, rfl⟩
              have HPN : Hid (itemsF k0 l' e' = ((is ++ [⟨x, y, z⟩]) ++ (itemsF (n - 1) lc ec).1, (itemsF (n - 1) lc ec).2)) := Lib.hid (by
                rw [HPI.out, itemsF_go hn0 hda hdb hdc]
                simp)
              have HLN2 : Hid (lc.length ≤ l'.length) := Lib.hid (by
                have h1 := decN_len l 0 1
                have h2 := decN_len la ea 1
                have h3 := decN_len lb eb 8
                have h4 := HLI.out
                rw [hda] at h1
                rw [hdb] at h2
                rw [hdc] at h3
                simp only at h1 h2 h3
                omega)
              have HDA := Lib.hid hda
              have HDB := Lib.hid hdb
              have HDC := Lib.hid hdc
              have hsr := HS.out
              obtain ⟨wb, rfl⟩ : ∃ x, x = wr := ⟨_, rfl⟩
              clear hda hdb hdc HPI HLI HGT HS
              go_wp2_with fail
              refine (decInt _ db l 0 1 1 wb HD.out (fun h => h.2 rfl) rfl (by omega) (by omega) HDA.out).mono ?_
              rintro e' w11 ⟨rfl, hdx, m2⟩
              have HDx := Lib.hid hdx
              clear HD hdx
              have HD := HDx
              clear HDx
              have HB2 := Lib.hid ((m2.block pb (heap_lt HB.out) (by omega)).trans HB.out)
              clear HB
              have HB := HB2
              clear HB2
              have HVF2 := Lib.hid (HVF.out.mod m2 (fun k _ h (e : k = db) => by have := h.1; omega))
              clear HVF
              have HVF := HVF2
              clear HVF2
              have HLF2 := Lib.hid (HLF.out.mod m2 (fun k _ h (e : k = db) => by have := h.1; omega))
              clear HLF
              have HLF := HLF2
              clear HLF2
              have HI2 := Lib.hid (HI.out.mod m2 (fun k _ h (e : k = db) => by have := h; omega))
              clear HI
              have HI := HI2
              clear HI2
              have HX2 := Lib.hid (HX.out.trans m2 (fun k _ (e : k = db) => by show G < k; omega))
              clear HX
              have HX := HX2
              clear HX2
              have hsw11 := m2.size
              clear m2
              go_wp2_with fail
              refine (decInt _ db la ea 1 1 w11 HD.out (fun h => h.2 rfl) rfl (by omega) (by omega) HDB.out).mono ?_
              rintro e' w12 ⟨rfl, hdx, m2⟩
              have HDx := Lib.hid hdx
              clear HD hdx
              have HD := HDx
              clear HDx
              have HB2 := Lib.hid ((m2.block pb (heap_lt HB.out) (by omega)).trans HB.out)
              clear HB
              have HB := HB2
              clear HB2
              have HVF2 := Lib.hid (HVF.out.mod m2 (fun k _ h (e : k = db) => by have := h.1; omega))
              clear HVF
              have HVF := HVF2
              clear HVF2
              have HLF2 := Lib.hid (HLF.out.mod m2 (fun k _ h (e : k = db) => by have := h.1; omega))
              clear HLF
              have HLF := HLF2
              clear HLF2
              have HI2 := Lib.hid (HI.out.mod m2 (fun k _ h (e : k = db) => by have := h; omega))
              clear HI
              have HI := HI2
              clear HI2
              have HX2 := Lib.hid (HX.out.trans m2 (fun k _ (e : k = db) => by show G < k; omega))
              clear HX
              have HX := HX2
              clear HX2
              have hsw12 := m2.size
              clear m2
              go_wp2_with fail
              refine (decInt _ db lb eb 8 8 w12 HD.out (fun h => h.2 rfl) rfl (by omega) (by omega) HDC.out).mono ?_
              rintro e' w13 ⟨rfl, hdx, m2⟩
              have HDx := Lib.hid hdx
              clear HD hdx
              have HD := HDx
              clear HDx
              have HB2 := Lib.hid ((m2.block pb (heap_lt HB.out) (by omega)).trans HB.out)
              clear HB
              have HB := HB2
              clear HB2
              have HVF2 := Lib.hid (HVF.out.mod m2 (fun k _ h (e : k = db) => by have := h.1; omega))
              clear HVF
              have HVF := HVF2
              clear HVF2
              have HLF2 := Lib.hid (HLF.out.mod m2 (fun k _ h (e : k = db) => by have := h.1; omega))
              clear HLF
              have HLF := HLF2
              clear HLF2
              have HI2 := Lib.hid (HI.out.mod m2 (fun k _ h (e : k = db) => by have := h; omega))
              clear HI
              have HI := HI2
              clear HI2
              have HX2 := Lib.hid (HX.out.trans m2 (fun k _ (e : k = db) => by show G < k; omega))
              clear HX
              have HX := HX2
              clear HX2
              have hsw13 := m2.size
              clear m2
              obtain ⟨g13, hg13⟩ : ∃ g, w13.heap.size = g := ⟨_, rfl⟩
              obtain ⟨i0, hi0, hz0, hz1, hz2⟩ := info_parts info_item3
              have m14 : Mod nil w13 (w13.alloc (.cells #[.int .i64 x, .int .i64 y, .int .i64 z] 64)) := (Mod.refl nil _).alloc _
              obtain ⟨v15, w15, hrun, hv15, m15⟩ := vec_append (P := Try.prog) 37 37 64 i0 _ 3 24 Try.underlying37 hi0 hz0 hz1 hz2 rfl (by omega) (HI.out.modNil m14) (cellsItem w13 x y z g13 hg13) rfl (by simp [Value.oneCell']) (by unfold maxLen; omega) (by omega)
              obtain ⟨p15, q15, rfl⟩ := hv15.form
              have M15 := m14.ofNil.trans m15 (fun _ _ h => h)
              have HB15 := Lib.hid ((M15.block pb (heap_lt HB.out) (fun h => by have h : Hr ≤ pb := h; omega)).trans HB.out)
              have HVF15 := Lib.hid (HVF.out.mod M15 (fun k _ h h2 => by have := h.2; have h2 : Hr ≤ k := h2; omega))
              have HLF15 := Lib.hid (HLF.out.mod M15 (fun k _ h h2 => by have := h.2; have h2 : Hr ≤ k := h2; omega))
              have HD15 := Lib.hid (HD.out.mod M15 (fun h => by have h : Hr ≤ db := h; omega) (fun k _ h h2 => by have := h.1; have h2 : Hr ≤ k := h2; omega))
              have HI15 : Hid (IsVec (fun k => Hr ≤ k) w15 64 3 (.slice p15 (j + 1) q15) (j + 1) (its (is ++ [⟨x, y, z⟩]))) := Lib.hid (by
                rw [its_append]
                exact hv15.mono (fun k hk h => h.elim id (fun h => by rw [World.size_alloc] at h; omega)))
              have HX15 := Lib.hid (HX.out.trans M15 (fun k _ h => by have h : Hr ≤ k := h; show G < k; omega))
              have HS15 : Hid (Hr ≤ w15.heap.size) := Lib.hid (by have := M15.size; omega)
              have HIL15 : Hid ((is ++ [(⟨x, y, z⟩ : It)]).length = j + 1) := Lib.hid (by rw [List.length_append, HIL.out]; rfl)
              have HRUN := Lib.hid hrun
              clear hrun hv15 m15 M15 m14 hi0 hz0 hz1 hz2 HB HVF HLF HD HI HX HIL hsr hsw11 hsw12 hsw13
              go_wp2_with (first | (at_builtin; refine wpList_append_run rfl _ _ _ _ rfl rfl rfl HRUN.out ?_))
              exact ⟨⟨n - 1, j + 1, lc, ec, p15, q15, is ++ [⟨x, y, z⟩], by go_num, rfl, by omega, by omega, HPN, HLN2, HIL15, HS15, HD15, HB15, HVF15, HLF15, HI15, HX15⟩, by simp [intOf]; omega⟩
            · obtain rfl : false = g := by rw [← HGT.out]; exact (decide_eq_false hgo).symm
              have HPE : Hid (itemsF k0 l' e' = (is, l, e)) := Lib.hid (by
                have h := itemsF_end (n := n) (l := l) (e := e) (by by_cases h : n = 0
                                                                    · exact .inl h
                                                                    · exact .inr (fun h2 => hgo ⟨by omega, h2⟩))
                rw [HPI.out, h]
                simp)
              have hj255 : j ≤ 255 := by omega
              have HPN : Hid (legsF m l3 e3 = ((ls ++ [is]) ++ (legsF (m - (i + 1)) l e).1, (legsF (m - (i + 1)) l e).2)) := Lib.hid (by
                have h := legsF_go (n := m - i) (by omega) HDN.out HPE.out
                rw [HP.out, h, show m - i - 1 = m - (i + 1) by omega]
                simp)
              have HLN3 : Hid (l.length ≤ l3.length) := Lib.hid (Nat.le_trans HLI.out HLN.out)
              have HLB3 : Hid (∀ x ∈ ls ++ [is], x.length ≤ 255) := Lib.hid (fun x hx => by
                rcases List.mem_append.1 hx with h | h
                · exact HLB.out x h
                · rw [List.mem_singleton.1 h, HIL.out]; exact hj255)
              clear hgo HPI HGT hjn hn HPE HLI
              have hlen3 := HIL.out
              have hits : IsIts (fun k => Hr ≤ k) wr (.slice qi j ci) is := by
                have h := HI.out.cells
                rw [← hlen3] at h ⊢
                exact h
              obtain ⟨wc, rfl⟩ : ∃ x, x = wr := ⟨_, rfl⟩
              obtain ⟨g14, hg14⟩ : ∃ g, wc.heap.size = g := ⟨_, rfl⟩
              have hsc := HS.out
              have hRS : ∀ k, Hr ≤ k → (fun k => H2 ≤ k) k ∧ ¬ (Value.slice ql i cl).ownBlock = some k := fun k hk => ⟨by show H2 ≤ k; omega, fun h => by have := (HLF.out.own h).1.2; omega⟩
              obtain ⟨v15, w15, hrun, hv15, m15, -⟩ := legs_append (S := fun k => H2 ≤ k) (g := g14) 23 (HLF.out.mono (fun k _ h => h.1)) hits hRS hg14 (by omega)
              obtain ⟨p15, q15, rfl⟩ := hv15.form
              have M15 : Mod (fun k => H2 ≤ k ∧ k < Hr) wc w15 := m15.mono (fun k _ h => (HLF.out.own h).1)
              have HB15 := Lib.hid ((M15.block pb (heap_lt HB.out) (fun h => by have := h.1; omega)).trans HB.out)
              have HVF15 := Lib.hid (HVF.out.mod M15 (fun k _ h h2 => by have := h.2; have := h2.1; omega))
              have HD15 := Lib.hid (HD.out.mod M15 (fun h => by have := h.1; omega) (fun k _ h h2 => by have := h.1; have := h2.1; omega))
              have HL15 : Hid (IsLegsV (fun k => H2 ≤ k) w15 (.slice p15 (i + 1) q15) (i + 1) (ls ++ [is])) := Lib.hid (hv15.mono (fun k hk h => h.elim id (fun h => by omega)))
              have HX15 := Lib.hid (HX.out.trans M15 (fun k _ h => by have := h.1; show G < k; omega))
              have c2 := cell_of HB.out 2
              have d2 := cell_of HB15.out 2
              have z2 := free_of HB15.out 2
              simp only [List.getElem?_toArray, List.getElem?_cons_zero, List.getElem?_cons_succ] at c2 d2
              have m16 : ∀ u, Mod (· = pb) w15 (w15.setCell ⟨pb, 2, none⟩ u) := fun u => (Mod.refl (· = pb) w15).setCell _ _ (fun _ => rfl)
              have HB16 := Lib.hid (heap_setCell_same HB15.out (.slice p15 (i + 1) q15) (off := 2))
              have HVF16 := Lib.hid (HVF15.out.mod (m16 (.slice p15 (i + 1) q15)) (fun k _ h (e : k = pb) => by have := h.1; omega))
              have HD16 := Lib.hid (HD15.out.mod (m16 (.slice p15 (i + 1) q15)) (fun (h : db = pb) => by omega) (fun k _ h (e : k = pb) => by have := h.1; omega))
              have HL16 := Lib.hid (HL15.out.mod (m16 (.slice p15 (i + 1) q15)) (fun k _ h (e : k = pb) => by have h : H2 ≤ k := h; omega))
              have HX16 := Lib.hid (HX15.out.trans (m16 (.slice p15 (i + 1) q15)) (fun k _ (e : k = pb) => by show G < k; omega))
              have HS16 : Hid (H2 ≤ (w15.setCell ⟨pb, 2, none⟩ (.slice p15 (i + 1) q15)).heap.size) := Lib.hid (by have := (m16 (.slice p15 (i + 1) q15)).size; have := M15.size; omega)
              have HRUN := Lib.hid hrun
              clear hrun hv15 m15 M15 m16 hRS hits hlen3 HB HVF HLF HD HI HX HB15 HVF15 HD15 HL15 HX15 HIL HP HLN HLB HDN hsc
              go_wp2_with (first | (at_builtin; refine wpList_append_run rfl _ _ _ _ rfl rfl rfl HRUN.out ?_))
              exact ⟨⟨i + 1, l, e, p15, q15, ls ++ [is], by go_num, by omega, HPN, HLN3, HLB3, HS16, HD16, HB16, HVF16, HL16, HX16⟩, by simp [intOf]; omega⟩
        · obtain rfl : m = i := by omega
          have HPE : Hid (legsF m l3 e3 = (ls, l, e)) := Lib.hid (by rw [HP.out, Nat.sub_self]; simp [legsF])
          clear HP hlt hi
          obtain ⟨wd, rfl⟩ : ∃ x, x = wr := ⟨_, rfl⟩
          have HDEC : Hid (decF b = if e ≠ 0 ∨ l.length ≠ 44 then (Pl.zero, 2) else decT b deal acc ls) := Lib.hid (by
            have h1 := HD1.out
            have h2 := HPEA.out
            have h3 := HPE.out
            unfold decF
            rw [HD0.out]
            simp only
            rw [h1]
            simp only [Int.toNat_natCast]
            rw [h2]
            simp only
            rw [HPSL.out, h3])
          have hll : l.length ≤ N := by
            have h1 := HLL.out
            have h2 := HLLA.out
            have h3 := decN_len b 0 2
            have h4 := decN_len l1 e1 1
            rw [HD0.out] at h3
            rw [HD1.out] at h4
            have h5 := HNB.out
            simp only at h3 h4
            omega
          obtain ⟨L, hL⟩ : ∃ n, l.length = n := ⟨_, rfl⟩
          rw [hL] at hll
          have HLEN := Lib.hid hL
          obtain ⟨A, hA⟩ : ∃ A, N - L = A := ⟨_, rfl⟩
          have hsub : IntKind.i64.wrap ((N : Int) - (L : Int)) = (A : Int) := by rw [IntKind.wrap_i64]; omega
          have HA := Lib.hid hA
          clear hL hA HPE HLL
          go_wp2_with fail
          refine (decLeft _ db l e L wd HD.out HLEN.out).mono ?_
          rintro e' w' ⟨rfl, rfl⟩
          go_wp2_with fail
          refine (decErr _ db l e wd HD.out).mono ?_
          rintro e' w' ⟨rfl, rfl⟩
          clear hsub
          by_cases he0 : e = 0
          case neg =>
            have hb : (e != 0) = true := by simp [he0]
            have HN := Lib.hid (show decF b = (Pl.zero, 2) from by rw [HDEC.out, if_pos (.inl he0)])
            clear he0
            obtain ⟨hz, hpost⟩ := HFAIL.out (HN.out) wd HX.out
            have HZW := Lib.hid hz
            have HEND := Lib.hid hpost
            clear hz hpost
            go_wp2_with (refine wpList_store_row rfl _ _ _ rfl G #[.int .i64 0, .slice none 0 0, .slice none 0 0, .string ⟨#[]⟩, .int .i64 0, .int .i64 0, .int .i64 0, .slice none 0 0] rfl rfl 30 _ HZW.out info_plan rfl (by simp [Value.oneCell']) ?_)
            refine bodyPost_ret (results_cell_row2 rfl _ _ G 30 #[.int .i64 0, .slice none 0 0, .slice none 0 0, .string ⟨#[]⟩, .int .i64 0, .int .i64 0, .int .i64 0, .slice none 0 0] (0, 0) rfl (setRow_heap wd G _ #[.int .i64 0, .slice none 0 0, .slice none 0 0, .string ⟨#[]⟩, .int .i64 0, .int .i64 0, .int .i64 0, .slice none 0 0] _ _ HZW.out) Try.underlying30 info_plan) rfl ?_
            exact HEND.out
          subst he0
          go_wp2_with fail
          refine (decLeft _ db l 0 L wd HD.out HLEN.out).mono ?_
          rintro e' w' ⟨rfl, rfl⟩
          by_cases hL44 : L = 44
          case neg =>
            have hb : ((L : Int) != 44) = true := by simp; omega
            have HN := Lib.hid (show decF b = (Pl.zero, 2) from by rw [HDEC.out, if_pos (.inr (by rw [HLEN.out]; exact hL44))])
            clear hL44
            obtain ⟨hz, hpost⟩ := HFAIL.out (HN.out) wd HX.out
            have HZW := Lib.hid hz
            have HEND := Lib.hid hpost
            clear hz hpost
            go_wp2_with (refine wpList_store_row rfl _ _ _ rfl G #[.int .i64 0, .slice none 0 0, .slice none 0 0, .string ⟨#[]⟩, .int .i64 0, .int .i64 0, .int .i64 0, .slice none 0 0] rfl rfl 30 _ HZW.out info_plan rfl (by simp [Value.oneCell']) ?_)
            refine bodyPost_ret (results_cell_row2 rfl _ _ G 30 #[.int .i64 0, .slice none 0 0, .slice none 0 0, .string ⟨#[]⟩, .int .i64 0, .int .i64 0, .int .i64 0, .slice none 0 0] (0, 0) rfl (setRow_heap wd G _ #[.int .i64 0, .slice none 0 0, .slice none 0 0, .string ⟨#[]⟩, .int .i64 0, .int .i64 0, .int .i64 0, .slice none 0 0] _ _ HZW.out) Try.underlying30 info_plan) rfl ?_
            exact HEND.out
          have HDEC2 : Hid (decF b = decT b deal acc ls) := Lib.hid (by rw [HDEC.out, if_neg (by rw [HLEN.out]; simp [hL44])])
          subst hL44
          clear HDEC HLEN HD
          obtain ⟨E, hE⟩ : ∃ E, A + 32 = E := ⟨_, rfl⟩
          have hAN : A + 44 = N := by have := HA.out; omega
          have hw32 : IntKind.i64.wrap ((A : Int) + 32) = (E : Int) := by rw [IntKind.wrap_i64]; omega
          obtain ⟨p2, hsl, hr2⟩ := slice_cut T p N c A E b w HROW.out (by omega) (by omega) hc
          obtain ⟨c3, hc3⟩ : ∃ q, c - A = q := ⟨_, rfl⟩
          rw [show E - A = 32 by omega, hc3] at hsl hr2
          obtain ⟨p3, hsl3, hr3⟩ := slice_from T p N c E b w HROW.out (by omega) hc
          obtain ⟨c4, hc4⟩ : ∃ q, c - E = q := ⟨_, rfl⟩
          rw [show N - E = 12 by omega, hc4] at hsl3 hr3
          obtain ⟨Z, hZ⟩ : ∃ Z, (b.drop A).take 32 = Z := ⟨_, rfl⟩
          rw [hZ] at hr2
          have hZl : Z.length = 32 := by rw [← hZ, List.length_take, List.length_drop, HNB.out]; omega
          have hMW := HM1.out.new HX.out (fun k h => by have := HGE.out; have h : G < k := h; omega)
          have hconv := rowText (hr2 wd (HROW.out.modNil hMW))
          have HR3 := Lib.hid (hr3 w HROW.out)
          have HZ := Lib.hid hZ
          have HZL := Lib.hid hZl
          have HA2 : Hid (b.length - 44 = A ∧ b.length - 44 + 32 = E) := Lib.hid (by rw [HNB.out]; omega)
          have c0 := cell_of HB.out 3
          have z0 := free_of HB.out 3
          simp only [List.getElem?_toArray, List.getElem?_cons_zero, List.getElem?_cons_succ] at c0
          clear hMW hr2 hr3 hZ hZl HA hE hc3 hc4 hAN
          go_upto_region 20 with (fail)
          clear c0 z0 hconv
          generalize hwe : World.setCell wd _ _ = we
          have m2 : Mod (· = pb) wd we := by rw [← hwe]; exact (Mod.refl (· = pb) wd).setCell _ _ (fun _ => rfl)
          have HB2 : Hid (we.heap[pb]? = some (.cells #[.int .i64 deal, .slice pp m cc, .slice ql m cl, .string ⟨Z.toArray⟩, .int .i64 0, .int .i64 0, .int .i64 0, .slice none 0 0] 30 (0, 0))) := Lib.hid (by rw [← hwe]; exact heap_setCell_same HB.out (.string ⟨Z.toArray⟩) (off := 3))
          have HVF2 := Lib.hid (HVF.out.mod m2 (fun k _ h (e : k = pb) => by have := h.1; omega))
          have HL2 := Lib.hid (HL.out.mod m2 (fun k _ h (e : k = pb) => by have h : H2 ≤ k := h; omega))
          have HX2 := Lib.hid (HX.out.trans m2 (fun k _ (e : k = pb) => by show G < k; omega))
          clear HB HVF HL HX hwe m2
          have HB := HB2
          have HVF := HVF2
          have HL := HL2
          have HX := HX2
          clear HB2 HVF2 HL2 HX2
          have HR3e := HR3.out.modNil (HM1.out.new HX.out (fun k h => by have := HGE.out; have h : G < k := h; omega))
          go_wp2_with fail
          refine (wireNewDec T _ (b.drop E) we HR3e (by rw [List.length_drop, HNB.out]; omega)).mono ?_
          rintro e' wf ⟨db2, rfl, hdb2, hdec2, m2⟩
          clear HR3e
          have hpe : pb < we.heap.size := heap_lt HB.out
          have HB2 := Lib.hid (m2.keep HB.out)
          have HVF2 : Hid (IsVec (fun k => pb < k ∧ k < db2) wf 3 1 (.slice pp m cc) m (acc.map (.int .i64))) := Lib.hid ((HVF.out.mono (fun k hk h => ⟨h.1, by omega⟩)).modNil m2)
          have HL2 : Hid (IsLegsV (fun k => pb < k ∧ k < db2) wf (.slice ql m cl) m ls) := Lib.hid ((HL.out.mono (fun k hk h => ⟨by omega, by omega⟩)).modNil m2)
          have HX2 := Lib.hid (HX.out.thenNil m2)
          have HD := Lib.hid hdec2
          have hpd : pb < db2 := by omega
          clear HB HVF HL HX m2 hdb2 hdec2 hpe
          have HB := HB2
          have HVF := HVF2
          have HL := HL2
          have HX := HX2
          clear HB2 HVF2 HL2 HX2
          obtain ⟨D, hD⟩ : ∃ D, b.drop E = D := ⟨_, rfl⟩
          rw [hD] at HD HR3
          have HDD := Lib.hid hD
          clear hD hw32 hsl hsl3
          obtain ⟨ss, l5, e5, hs1⟩ : ∃ x l2 e2, decN D 0 8 = (x, l2, e2) := ⟨_, _, _, rfl⟩
          obtain ⟨ee, l6, e6, hs2⟩ : ∃ x l2 e2, decN l5 e5 2 = (x, l2, e2) := ⟨_, _, _, rfl⟩
          obtain ⟨ww, l7, e7, hs3⟩ : ∃ x l2 e2, decN l6 e6 2 = (x, l2, e2) := ⟨_, _, _, rfl⟩
          have HS1 := Lib.hid hs1
          have HS2 := Lib.hid hs2
          have HS3 := Lib.hid hs3
          clear hs1 hs2 hs3
          go_wp2_with fail
          refine (decInt _ db2 D 0 8 8 wf HD.out (fun h => h.2 rfl) rfl (by omega) (by omega) HS1.out).mono ?_
          rintro e' wg ⟨rfl, hdx, m2⟩
          have HDx := Lib.hid hdx
          clear HD hdx
          have HD := HDx
          clear HDx
          have HB2 := Lib.hid ((m2.block pb (heap_lt HB.out) (by omega)).trans HB.out)
          have HVF2 := Lib.hid (HVF.out.mod m2 (fun k _ h (e : k = db2) => by have := h.2; omega))
          have HL2 := Lib.hid (HL.out.mod m2 (fun k _ h (e : k = db2) => by have := h.2; omega))
          have HX2 := Lib.hid (HX.out.trans m2 (fun k _ (e : k = db2) => by show G < k; omega))
          clear HB HVF HL HX
          have HB := HB2
          have HVF := HVF2
          have HL := HL2
          have HX := HX2
          clear HB2 HVF2 HL2 HX2
          clear m2
          go_wp2_with fail
          refine (decInt _ db2 l5 e5 2 2 wg HD.out (fun h => h.2 rfl) rfl (by omega) (by omega) HS2.out).mono ?_
          rintro e' wh ⟨rfl, hdx, m2⟩
          have HDx := Lib.hid hdx
          clear HD hdx
          have HD := HDx
          clear HDx
          have HB2 := Lib.hid ((m2.block pb (heap_lt HB.out) (by omega)).trans HB.out)
          have HVF2 := Lib.hid (HVF.out.mod m2 (fun k _ h (e : k = db2) => by have := h.2; omega))
          have HL2 := Lib.hid (HL.out.mod m2 (fun k _ h (e : k = db2) => by have := h.2; omega))
          have HX2 := Lib.hid (HX.out.trans m2 (fun k _ (e : k = db2) => by show G < k; omega))
          clear HB HVF HL HX
          have HB := HB2
          have HVF := HVF2
          have HL := HL2
          have HX := HX2
          clear HB2 HVF2 HL2 HX2
          clear m2
          go_wp2_with fail
          refine (decInt _ db2 l6 e6 2 2 wh HD.out (fun h => h.2 rfl) rfl (by omega) (by omega) HS3.out).mono ?_
          rintro e' wi ⟨rfl, hdx, m2⟩
          have HDx := Lib.hid hdx
          clear HD hdx
          have HD := HDx
          clear HDx
          have HB2 := Lib.hid ((m2.block pb (heap_lt HB.out) (by omega)).trans HB.out)
          have HVF2 := Lib.hid (HVF.out.mod m2 (fun k _ h (e : k = db2) => by have := h.2; omega))
          have HL2 := Lib.hid (HL.out.mod m2 (fun k _ h (e : k = db2) => by have := h.2; omega))
          have HX2 := Lib.hid (HX.out.trans m2 (fun k _ (e : k = db2) => by show G < k; omega))
          clear HB HVF HL HX
          have HB := HB2
          have HVF := HVF2
          have HL := HL2
          have HX := HX2
          clear HB2 HVF2 HL2 HX2
          clear m2
          clear HD
          have z4 := free_of HB.out 4
          have z5 := free_of HB.out 5
          have z6 := free_of HB.out 6
          have k4 := cell_of HB.out 4
          have k5 := cell_of HB.out 5
          have k6 := cell_of HB.out 6
          simp only [List.getElem?_toArray, List.getElem?_cons_zero, List.getElem?_cons_succ] at k4 k5 k6
          go_upto_region 22 with (fail)
          clear z4 z5 z6 k4 k5 k6
          generalize hwj : World.setCell (World.setCell (World.setCell wi _ _) _ _) _ _ = wj
          have m2 : Mod (· = pb) wi wj := by rw [← hwj]; exact (((Mod.refl (· = pb) wi).setCell _ _ (fun _ => rfl)).setCell _ _ (fun _ => rfl)).setCell _ _ (fun _ => rfl)
          have hbj : wj.heap[pb]? = some (.cells #[.int .i64 deal, .slice pp m cc, .slice ql m cl, .string ⟨Z.toArray⟩, .int .i64 ss, .int .i64 ee, .int .i64 ww, .slice none 0 0] 30 (0, 0)) := by rw [← hwj]; exact heap_setCell_same (heap_setCell_same (heap_setCell_same HB.out (.int .i64 ss) (off := 4)) (.int .i64 ee) (off := 5)) (.int .i64 ww) (off := 6)
          have hlsl : ls.length = m := HL.out.len
          have HXj := Lib.hid (HX.out.trans m2 (fun k _ (e : k = pb) => by show G < k; omega))
          have hrowj := (HVF.out.mod m2 (fun k _ h (e : k = pb) => by have := h.1; omega)).row
          have hlegj := (HL.out.mod m2 (fun k _ h (e : k = pb) => by have := h.1; omega)).legs
          have hplj : IsPl (fun _ => True) wj (.agg #[.int .i64 deal, .slice pp m cc, .slice ql m cl, .string ⟨Z.toArray⟩, .int .i64 ss, .int .i64 ee, .int .i64 ww, .slice none 0 0]) ⟨deal, acc, ls, Z, ss, ee, ww, []⟩ := ⟨pp, cc, ql, cl, none, 0, by simp only [HPSL.out, hlsl, List.length_nil], by simp only [HPSL.out]; exact hrowj.mono (fun _ _ _ => trivial), by simp only [hlsl]; exact hlegj.mono (fun _ _ _ => trivial), ⟨none, 0, rfl, fun i hi => by simp at hi⟩⟩
          obtain ⟨Q, er, hM⟩ : ∃ Q er, makeN deal acc ls Z ss ee ww = (Q, er) := ⟨_, _, rfl⟩
          have hag := planAgain _ _ _ wj hplj ⟨by simp only; have := HPSL.out; omega, by simp only; omega, by simp, fun x hx => by have := HLB.out x hx; omega⟩ (by simp only; have := HZL.out; omega)
          simp only at hag
          rw [hM] at hag
          have HAG := Lib.hid hag
          have HDT : Hid (decF b = if er = 0 ∧ encF Q = (b, 0) then (Q, 0) else (Pl.zero, 2)) := Lib.hid (by
            have h1 := HS1.out
            have h2 := HS2.out
            have h3 := HS3.out
            have hA1 := HA2.out.1
            have hA3 := HA2.out.2
            rw [HDEC2.out]
            unfold decT
            simp only
            rw [hA3, HDD.out, h1]
            simp only
            rw [h2]
            simp only
            rw [h3]
            simp only
            rw [hA1, HZ.out, hM])
          have HMK := Lib.hid hM
          have HLSL := Lib.hid hlsl
          have k0 := cell_of hbj 0
          have k1 := cell_of hbj 1
          have k2 := cell_of hbj 2
          have k3 := cell_of hbj 3
          have k4 := cell_of hbj 4
          have k5 := cell_of hbj 5
          have k6 := cell_of hbj 6
          have k7 := cell_of hbj 7
          simp only [List.getElem?_toArray, List.getElem?_cons_zero, List.getElem?_cons_succ] at k0 k1 k2 k3 k4 k5 k6 k7
          clear hwj m2 hbj hlsl hrowj hlegj hplj hag hM HB HVF HL HX HDEC2 HS1 HS2 HS3 HDD HR3
          rcases makeN_cases HMK.out with ⟨rfl, dlq, -, -, -, rfl⟩ | ⟨her, rfl⟩
          case inr =>
            have hb : (er != 0) = true := by simp [her]
            have HN := Lib.hid (show decF b = (Pl.zero, 2) from by rw [HDT.out, if_neg (fun h => her h.1)])
            clear her HMK
            go_wp2_with fail
            refine HAG.out.mono ?_
            rintro e' wk ⟨v', rfl, hpl, hmk⟩
            obtain ⟨p1, q1, p2x, q2, p7, q7, hv, -⟩ := hpl
            have hv : v' = .agg #[.int .i64 0, .slice p1 0 q1, .slice p2x 0 q2, .string ⟨#[]⟩, .int .i64 0, .int .i64 0, .int .i64 0, .slice p7 0 q7] := hv
            subst hv
            have HXk := Lib.hid (HXj.out.thenNil hmk)
            clear hmk
            go_upto_region 23 with (fail)
            generalize hwl : World.alloc wk _ = wl
            have HXl := Lib.hid (show Mod (fun k => G < k) w1 wl from by rw [← hwl]; exact HXk.out.alloc _)
            clear hwl k0 k1 k2 k3 k4 k5 k6 k7
            obtain ⟨hz, hpost⟩ := HFAIL.out (HN.out) wl HXl.out
            have HZW := Lib.hid hz
            have HEND := Lib.hid hpost
            clear hz hpost
            go_wp2_with (refine wpList_store_row rfl _ _ _ rfl G #[.int .i64 0, .slice none 0 0, .slice none 0 0, .string ⟨#[]⟩, .int .i64 0, .int .i64 0, .int .i64 0, .slice none 0 0] rfl rfl 30 _ HZW.out info_plan rfl (by simp [Value.oneCell']) ?_)
            refine bodyPost_ret (results_cell_row2 rfl _ _ G 30 #[.int .i64 0, .slice none 0 0, .slice none 0 0, .string ⟨#[]⟩, .int .i64 0, .int .i64 0, .int .i64 0, .slice none 0 0] (0, 0) rfl (setRow_heap wl G _ #[.int .i64 0, .slice none 0 0, .slice none 0 0, .string ⟨#[]⟩, .int .i64 0, .int .i64 0, .int .i64 0, .slice none 0 0] _ _ HZW.out) Try.underlying30 info_plan) rfl ?_
            exact HEND.out
          go_wp2_with fail
          refine HAG.out.mono ?_
          rintro e' wk ⟨v', rfl, hpl, hmk⟩
          obtain ⟨p1, q1, p2x, q2, p7, q7, rfl, hq1, hq2, hq3⟩ := hpl
          simp only at hq1 hq2 hq3 ⊢
          obtain ⟨nq, hnq⟩ : ∃ n, dlq.length = n := ⟨_, rfl⟩
          rw [HPSL.out, HLSL.out, hnq]
          rw [HPSL.out] at hq1
          rw [HLSL.out] at hq2
          rw [hnq] at hq3
          have HNQ := Lib.hid hnq
          have HPLQ : Hid (IsPl (fun k => wj.heap.size ≤ k) wk (.agg #[.int .i64 deal, .slice p1 m q1, .slice p2x m q2, .string ⟨Z.toArray⟩, .int .i64 ss, .int .i64 ee, .int .i64 ww, .slice p7 nq q7]) ⟨deal, acc, ls, Z, ss, ee, ww, dlq⟩) := Lib.hid ⟨p1, q1, p2x, q2, p7, q7, by simp only [HPSL.out, HLSL.out, HNQ.out], by simp only [HPSL.out]; exact hq1, by simp only [HLSL.out]; exact hq2, by simp only [HNQ.out]; exact hq3⟩
          have hnq2 : nq ≤ 1000000 := by
            rcases makeN_cases HMK.out with ⟨-, d2, -, hlad, -, he⟩ | ⟨he, -⟩
            · have h := (ladderN_some hlad).1
              have h2 := congrArg Pl.dl he
              simp only at h2
              rw [← h2, HPSL.out, HNQ.out] at h
              omega
            · exact absurd rfl he
          have HXk := Lib.hid (HXj.out.thenNil hmk)
          have hGj : G < wj.heap.size := by have := HXj.out.size; omega
          clear hq1 hq2 hq3 hnq hmk HMK HXj k0 k1 k2 k3 k4 k5 k6 k7 HAG
          go_upto_region 23 with (fail)
          obtain ⟨tb, htb⟩ : ∃ x, wk.heap.size = x := ⟨_, rfl⟩
          (try rw [htb])
          generalize hwl : World.alloc wk _ = wl
          have hml : Mod nil wk wl := by rw [← hwl]; exact (Mod.refl _ _).alloc _
          have hbl : wl.heap[tb]? = some (.cells #[.int .i64 deal, .slice p1 m q1, .slice p2x m q2, .string ⟨Z.toArray⟩, .int .i64 ss, .int .i64 ee, .int .i64 ww, .slice p7 nq q7] 30 (0, 0)) := by rw [← hwl, ← htb]; exact heap_alloc_new _ _
          have t0 := cell_of hbl 0
          have t1 := cell_of hbl 1
          have t2 := cell_of hbl 2
          have t3 := cell_of hbl 3
          have t4 := cell_of hbl 4
          have t5 := cell_of hbl 5
          have t6 := cell_of hbl 6
          have t7 := cell_of hbl 7
          simp only [List.getElem?_toArray, List.getElem?_cons_zero, List.getElem?_cons_succ] at t0 t1 t2 t3 t4 t5 t6 t7
          have HPLl := Lib.hid (HPLQ.out.modNil hml)
          have HXl := Lib.hid (HXk.out.thenNil hml)
          obtain ⟨eb, ez, hen⟩ : ∃ eb ez, encF ⟨deal, acc, ls, Z, ss, ee, ww, dlq⟩ = (eb, ez) := ⟨_, _, rfl⟩
          have henc := planEncode _ _ _ wl HPLl.out ⟨by simp only; have := HPSL.out; omega, by simp only; have := HLSL.out; omega, by simp only; have := HNQ.out; omega, fun x hx => by have := HLB.out x hx; omega⟩ (by simp only; have := HZL.out; omega)
          rw [hen] at henc
          rw [hen] at HDT
          have HENC := Lib.hid henc
          clear hwl hml hbl HPLQ HXk henc hen htb
          go_wp2_with fail
          refine HENC.out.mono ?_
          rintro e' wm ⟨vb, rfl, hvb, hmm⟩
          have hrowb := hvb.row
          clear hvb
          have t0' := cell_kept t0 hmm (World.block_lt_of_cell? _ _ t0) (not_nil _)
          clear t0
          have t0 := t0'
          clear t0'
          have t1' := cell_kept t1 hmm (World.block_lt_of_cell? _ _ t1) (not_nil _)
          clear t1
          have t1 := t1'
          clear t1'
          have t2' := cell_kept t2 hmm (World.block_lt_of_cell? _ _ t2) (not_nil _)
          clear t2
          have t2 := t2'
          clear t2'
          have t3' := cell_kept t3 hmm (World.block_lt_of_cell? _ _ t3) (not_nil _)
          clear t3
          have t3 := t3'
          clear t3'
          have t4' := cell_kept t4 hmm (World.block_lt_of_cell? _ _ t4) (not_nil _)
          clear t4
          have t4 := t4'
          clear t4'
          have t5' := cell_kept t5 hmm (World.block_lt_of_cell? _ _ t5) (not_nil _)
          clear t5
          have t5 := t5'
          clear t5'
          have t6' := cell_kept t6 hmm (World.block_lt_of_cell? _ _ t6) (not_nil _)
          clear t6
          have t6 := t6'
          clear t6'
          have t7' := cell_kept t7 hmm (World.block_lt_of_cell? _ _ t7) (not_nil _)
          clear t7
          have t7 := t7'
          clear t7'
          have HXm := Lib.hid (HXl.out.thenNil hmm)
          have HPLm := Lib.hid (HPLl.out.modNil hmm)
          obtain ⟨pv, cv, rfl, hcv⟩ := id hrowb
          rw [bys_length] at hrowb ⊢
          have HRB := Lib.hid hrowb
          clear hcv hrowb hmm HXl HPLl HENC
          by_cases hez : ez = 0
          case neg =>
            have hb : (ez != 0) = true := by simp [hez]
            have HN := Lib.hid (show decF b = (Pl.zero, 2) from by rw [HDT.out, if_neg (fun h => hez (congrArg Prod.snd h.2))])
            clear hez t0 t1 t2 t3 t4 t5 t6 t7
            obtain ⟨hz, hpost⟩ := HFAIL.out (HN.out) wm HXm.out
            have HZW := Lib.hid hz
            have HEND := Lib.hid hpost
            clear hz hpost
            go_wp2_with (refine wpList_store_row rfl _ _ _ rfl G #[.int .i64 0, .slice none 0 0, .slice none 0 0, .string ⟨#[]⟩, .int .i64 0, .int .i64 0, .int .i64 0, .slice none 0 0] rfl rfl 30 _ HZW.out info_plan rfl (by simp [Value.oneCell']) ?_)
            refine bodyPost_ret (results_cell_row2 rfl _ _ G 30 #[.int .i64 0, .slice none 0 0, .slice none 0 0, .string ⟨#[]⟩, .int .i64 0, .int .i64 0, .int .i64 0, .slice none 0 0] (0, 0) rfl (setRow_heap wm G _ #[.int .i64 0, .slice none 0 0, .slice none 0 0, .string ⟨#[]⟩, .int .i64 0, .int .i64 0, .int .i64 0, .slice none 0 0] _ _ HZW.out) Try.underlying30 info_plan) rfl ?_
            exact HEND.out
          subst hez
          have HROWm := Lib.hid (HROW.out.modNil (HM1.out.new HXm.out (fun k h => by have := HGE.out; have h : G < k := h; omega)))
          go_wp2_with fail
          refine (bytesEqual _ _ _ _ eb b wm HRB.out HROWm.out).mono ?_
          rintro e' w' ⟨rfl, rfl⟩
          by_cases heq : eb = b
          case neg =>
            have HN := Lib.hid (show decF b = (Pl.zero, 2) from by rw [HDT.out, if_neg (fun h => heq (congrArg Prod.fst h.2))])
            rw [decide_eq_false heq]
            clear heq t0 t1 t2 t3 t4 t5 t6 t7
            obtain ⟨hz, hpost⟩ := HFAIL.out (HN.out) wm HXm.out
            have HZW := Lib.hid hz
            have HEND := Lib.hid hpost
            clear hz hpost
            go_wp2_with (refine wpList_store_row rfl _ _ _ rfl G #[.int .i64 0, .slice none 0 0, .slice none 0 0, .string ⟨#[]⟩, .int .i64 0, .int .i64 0, .int .i64 0, .slice none 0 0] rfl rfl 30 _ HZW.out info_plan rfl (by simp [Value.oneCell']) ?_)
            refine bodyPost_ret (results_cell_row2 rfl _ _ G 30 #[.int .i64 0, .slice none 0 0, .slice none 0 0, .string ⟨#[]⟩, .int .i64 0, .int .i64 0, .int .i64 0, .slice none 0 0] (0, 0) rfl (setRow_heap wm G _ #[.int .i64 0, .slice none 0 0, .slice none 0 0, .string ⟨#[]⟩, .int .i64 0, .int .i64 0, .int .i64 0, .slice none 0 0] _ _ HZW.out) Try.underlying30 info_plan) rfl ?_
            exact HEND.out
          rw [decide_eq_true heq]
          have HN := Lib.hid (show decF b = (⟨deal, acc, ls, Z, ss, ee, ww, dlq⟩, 0) from by rw [HDT.out, heq]; simp)
          obtain ⟨hz, -⟩ : wm.heap[G]? = some (.cells #[.int .i64 0, .slice none 0 0, .slice none 0 0, .string ⟨#[]⟩, .int .i64 0, .int .i64 0, .int .i64 0, .slice none 0 0] 30 (0, 0)) ∧ True := ⟨(HXm.out.block G hG1 (fun h => Nat.lt_irrefl _ h)).trans HZ1.out, trivial⟩
          have HZW := Lib.hid hz
          have hmG : Mod (· = G) wm (wm.setRow G #[.int .i64 deal, .slice p1 m q1, .slice p2x m q2, .string ⟨Z.toArray⟩, .int .i64 ss, .int .i64 ee, .int .i64 ww, .slice p7 nq q7]) := (Mod.refl (· = G) wm).rowSet G _ (fun _ => rfl)
          have HEND := Lib.hid (HPOST.out (.returned (.tuple #[.agg #[.int .i64 deal, .slice p1 m q1, .slice p2x m q2, .string ⟨Z.toArray⟩, .int .i64 ss, .int .i64 ee, .int .i64 ww, .slice p7 nq q7], .int .i64 0])) (wm.setRow G #[.int .i64 deal, .slice p1 m q1, .slice p2x m q2, .string ⟨Z.toArray⟩, .int .i64 ss, .int .i64 ee, .int .i64 ww, .slice p7 nq q7]) ⟨_, by rw [HN.out], by
            rw [HN.out]
            exact (HPLm.out.mod hmG (fun k _ h (e : k = G) => by have h : wj.heap.size ≤ k := h; omega)).mono (fun k _ h => by have h : wj.heap.size ≤ k := h; have := HGE.out; show w.heap.size ≤ k; omega), (HM1.out.new HXm.out (fun k h => by have := HGE.out; have h : G < k := h; omega)).trans hmG (fun k hk e => by have := HGE.out; have e : k = G := e; omega)⟩)
          clear heq hz hmG HN
          go_wp2_with (refine wpList_store_row rfl _ _ _ rfl G #[.int .i64 deal, .slice p1 m q1, .slice p2x m q2, .string ⟨Z.toArray⟩, .int .i64 ss, .int .i64 ee, .int .i64 ww, .slice p7 nq q7] rfl rfl 30 _ HZW.out info_plan rfl (by simp [Value.oneCell']) ?_)
          refine bodyPost_ret (results_cell_row2 rfl _ _ G 30 #[.int .i64 deal, .slice p1 m q1, .slice p2x m q2, .string ⟨Z.toArray⟩, .int .i64 ss, .int .i64 ee, .int .i64 ww, .slice p7 nq q7] (0, 0) rfl (setRow_heap wm G _ #[.int .i64 deal, .slice p1 m q1, .slice p2x m q2, .string ⟨Z.toArray⟩, .int .i64 ss, .int .i64 ee, .int .i64 ww, .slice p7 nq q7] _ _ HZW.out) Try.underlying30 info_plan) rfl ?_
          exact HEND.out

end Go.Proofs.Ytpkhjdhbkkepgaa

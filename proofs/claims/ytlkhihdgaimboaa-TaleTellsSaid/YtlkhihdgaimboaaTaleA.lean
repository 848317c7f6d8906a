/- Package tale: Secret. -/
import Derived.Test.YtlkhihdgaimboaaShaOne
import Derived.Laws.IdiomStrings
import Derived.Lib.SlBytesConst
namespace Go.Proofs.Ytlkhihdgaimboaa
open Go.RowKit

/-- a new block that is full is a vector -/
theorem vec_of_block {w : World} {g : Nat} {E : TypeId} {sz n : Nat} {xs : List Value} (h : w.heap[g]? = some (.cells xs.toArray E (0, 0))) (hl : xs.length = n * sz) (hn : n ≤ maxLen) : IsVec (· = g) w E sz (.slice (some ⟨g, 0, none⟩) n n) n xs :=
  ⟨⟨hl, .inr ⟨g, n, xs.toArray, rfl, Nat.zero_le _, h, Nat.le_refl _, hn, by simp [hl], by simp [← hl]⟩⟩, fun k hk => by simp [Value.ownBlock] at hk; omega⟩
theorem bys_get? (l : List UInt8) (i : Nat) (h : i < l.length) : (bys l)[i]? = some (.int .u8 (l.getD i 0).toNat) := by simp [bys, h]
/-- append to bytes that fill their block, whatever is frozen there: a new block -/
theorem bytes_append_full {T : Nat → Prop} {w : World} (ty : TypeId) {g n : Nat} {x : Value} {l m : List UInt8} (hl : l.length = n) (hc : ∀ i, i < n → w.cell? ⟨g, i, none⟩ = some (.int .u8 (l.getD i 0).toNat)) (hx : IsRow T w x (bys m)) (hm : 0 < m.length) (hb : n + m.length ≤ 140737488355328) :
    ∃ v' w', (Builtin.append_ #[22, 22] ty #[.slice (some ⟨g, 0, none⟩) n n, x]).run Try.prog w = .ok v' w' ∧ IsVec (fun k => w.heap.size ≤ k) w' 5 1 v' (n + m.length) (bys (l ++ m)) ∧ Mod nil w w' := by
  obtain ⟨i0, hi, hz0, hz1, hz2⟩ := info_parts info_u8
  obtain ⟨p, c, rfl, hcm⟩ := hx
  rw [bys_length] at hcm ⊢
  obtain ⟨b, off, rfl, _⟩ := hcm 0 hm
  have hadd : ∀ o j, (⟨b, o, none⟩ : Addr).add j = ⟨b, o + j, none⟩ := by intro o j; unfold Addr.add; split <;> simp_all
  have hadd2 : ∀ o j, (⟨g, o, none⟩ : Addr).add j = ⟨g, o + j, none⟩ := by intro o j; unfold Addr.add; split <;> simp_all
  have hr := run_append_grow (P := Try.prog) w 22 ty 5 i0 (.int .u8 0) Try.underlying22 hi hz0 ⟨g, 0, none⟩ n n (bys l) (by rw [bys_length, hl, hz1, Nat.mul_one]) (fun j u hu => by
      obtain ⟨hj, hu2⟩ := List.getElem?_eq_some_iff.1 hu
      rw [bys_length] at hj
      rw [hadd2, Nat.zero_add, hc j (by omega), ← bys_getD l j hj, List.getD_eq_getElem?_getD, hu]
      rfl) ⟨b, off, none⟩ m.length c (bys m) (by rw [bys_length, hz1, Nat.mul_one]) (fun j u hu => by
      obtain ⟨hj, hu2⟩ := List.getElem?_eq_some_iff.1 hu
      rw [bys_length] at hj
      obtain ⟨b', o', hp, _, _, hcell⟩ := hcm j hj
      simp only [Option.some.injEq, Addr.mk.injEq, and_true] at hp
      obtain ⟨rfl, rfl⟩ := hp
      rw [hadd, hcell, List.getD_eq_getElem?_getD, hu]
      rfl) (by omega) (by omega) (growslice_fits (by omega) (by rw [hz2]; omega))
  refine ⟨_, _, hr, ⟨⟨by rw [bys_length, List.length_append, hl, Nat.mul_one], .inr ⟨w.heap.size, _, _, rfl, Nat.zero_le _, heap_alloc_new w.drew _, grownCap_ge w (n + m.length) n _, grownCap_le_maxLen w (n + m.length) n _ (by unfold maxLen; omega), ?_, ?_⟩⟩, fun k hk => ?_⟩, ((Mod.refl nil w).drew).alloc _⟩
  · have hge := grownCap_ge w (n + m.length) n 5
    simp only [Array.size_append, List.size_toArray, size_zeroCells, bys_length, hl]
    rw [show (Value.int IntKind.u8 0).cells.size = 1 from rfl]
    omega
  · simp only [Array.toList_append, List.append_assoc]
    rw [← List.append_assoc, ← bys_append, show (n + m.length) * 1 = (bys (l ++ m)).length by rw [bys_length, List.length_append, hl, Nat.mul_one]]
    exact List.take_left
  · simp [Value.ownBlock] at hk
    omega
def secretMsg (n : Int) : List UInt8 := [115, 101, 99, 114, 101, 116] ++ layC (max n 0).toNat 8 8
def textOf (l : List UInt8) : ByteArray := ⟨l.toArray⟩
set_option maxRecDepth 100000 in
set_option maxHeartbeats 1000000 in
theorem taleSecret (tb : Nat) (n : Int) (w : World) (ht : IsTab w tb) (hn : n ≤ 9223372036854775807) :
    Calls Try.prog 14 #[.pointer (some ⟨tb, 0, none⟩), .int .i64 n] w fun e w' => e = .returned (.string (textOf (shaOf (secretMsg n)))) ∧ IsTab w' tb ∧ Mod (· = tb) w w' := by
  refine (?_ : ∀ Post : Ending → World → Prop, Hid (∀ e w', (e = .returned (.string (textOf (shaOf (secretMsg n)))) ∧ IsTab w' tb ∧ Mod (· = tb) w w') → Post e w') → Calls Try.prog 14 #[.pointer (some ⟨tb, 0, none⟩), .int .i64 n] w Post) _ (Lib.hid (fun _ _ h => h))
  intro Post HPOST
  have HT := Lib.hid ht
  clear ht
  obtain ⟨N, hN⟩ : ∃ N, (max n 0).toNat = N := ⟨_, rfl⟩
  have hmax : (if n < 0 then (0 : Int) else n) = (N : Int) := by split <;> omega
  have hNb : N ≤ 9223372036854775807 := by omega
  have HMSG : Hid (secretMsg n = [115, 101, 99, 114, 101, 116] ++ layC N 8 8) := Lib.hid (by rw [← hN]; rfl)
  clear hN
  have hcv := Lib.run_convert_bytes_const (P := Try.prog) w 22 5 #[.int .u8 115, .int .u8 101, .int .u8 99, .int .u8 114, .int .u8 101, .int .u8 116] 6 6 Try.underlying22 Try.underlying5
  simp only [List.size_toArray, List.length_cons, List.length_nil] at hcv
  go_enter Try.func14, Try.ntmps14
  go_upto_region 2 with (fail)
  obtain ⟨g, hg⟩ : ∃ g, w.heap.size = g := ⟨_, rfl⟩
  generalize hw1 : w.alloc _ = w1
  have hh1 : w1.heap[g]? = some (.cells (bys [115, 101, 99, 114, 101, 116]).toArray 5 (6, 7)) := by rw [← hw1, ← hg, heap_alloc_new]; rfl
  have hm1 : Mod nil w w1 := by rw [← hw1]; exact (Mod.refl _ _).alloc _
  have HH1 := Lib.hid hh1
  have hs1 : w1.heap.size = g + 1 := by rw [← hw1, ← hg]; simp
  have HS1 := Lib.hid hs1
  have HM1 := Lib.hid hm1
  have HG : Hid (w.heap.size = g) := Lib.hid hg
  rw [hg]
  clear hw1 hh1 hm1 hg hs1
  go_wp2_with fail
  clear hcv
  go_loopw [5, 6] (fun v5 v6 wr => ∃ (c m : Nat) (x : Int) (p : Option Addr) (q : Nat), c ≤ 8 ∧ v6 = .int .i64 x ∧ Hid (x = 7 - (c : Int)) ∧ Hid (m = 6 + c) ∧ m ≤ 14 ∧ v5 = .slice p m q ∧ Hid ((c = 0 ∧ p = some ⟨g, 0, none⟩ ∧ q = 6) ∨ (0 < c ∧ IsVec (fun k => g + 1 ≤ k) wr 5 1 (.slice p m q) m (bys ([115, 101, 99, 114, 101, 116] ++ layC N 8 c)))) ∧ Hid (Mod nil w1 wr)) (fun _ v _ => (intOf v + 1).toNat)
  case atStart => exact ⟨0, 6, _, _, _, by omega, rfl, Lib.hid (by omega), Lib.hid rfl, by omega, rfl, Lib.hid (.inl ⟨rfl, rfl, rfl⟩), Lib.hid (Mod.refl _ _)⟩
  case round =>
    obtain ⟨c, m, x, p, q, hc, rfl, HX, HMC, hm14, rfl, HVR, HMR⟩ := hrel
    by_cases hlt : c < 8
    · obtain ⟨k, rfl⟩ : ∃ k : Nat, x = k := ⟨7 - c, by have := HX.out; omega⟩
      have hk : 8 - 1 - c = k := by have := HX.out; omega
      have hk8 : k < 8 := by omega
      have hb := byteAt_nat N k
      have hbi : ((N / 2 ^ (8 * k) % 256 : Nat) : Int) = (N : Int) / 2 ^ (8 * k) % 256 := by simp
      rw [hbi] at hb
      have hm0 : Mod nil wr (wr.alloc (.cells #[.int .u8 (byteAt N k).toNat] 5)) := (Mod.refl nil wr).alloc _
      have hlen : ([115, 101, 99, 114, 101, 116] ++ layC N 8 c : List UInt8).length = m := by have := HMC.out; rw [List.length_append, layC_length]; simp; omega
      have happ : ∃ v7 w7, (Builtin.append_ #[22, 22] 22 #[.slice p m q, .slice (some ⟨wr.heap.size, 0, none⟩) 1 1]).run Try.prog (wr.alloc (.cells #[.int .u8 (byteAt N k).toNat] 5)) = .ok v7 w7 ∧ IsVec (fun k => g + 1 ≤ k) w7 5 1 v7 (m + 1) (bys (([115, 101, 99, 114, 101, 116] ++ layC N 8 c) ++ [byteAt N k])) ∧ Mod (fun k => g + 1 ≤ k) (wr.alloc (.cells #[.int .u8 (byteAt N k).toNat] 5)) w7 := by
        rcases HVR.out with ⟨rfl, rfl, rfl⟩ | ⟨_, hv⟩
        · obtain rfl : m = 6 := HMC.out
          obtain ⟨v7, w7, h1, h2, h3⟩ := bytes_append_full (T := (· = wr.heap.size)) (g := g) (n := 6) (l := [115, 101, 99, 114, 101, 116]) (m := [byteAt N k]) 22 rfl (fun i hi => by
            rw [cell_of ((HMR.out.trans hm0 (fun _ _ f => f.elim)).keep HH1.out), List.getElem?_toArray]
            exact bys_get? [115, 101, 99, 114, 101, 116] i hi) (row_one (byteAt N k) _ rfl) (by simp) (by simp)
          refine ⟨v7, w7, h1, h2.mono (fun j _ hj => ?_), h3.ofNil⟩
          have := hm0.size; have := HMR.out.size; have := HS1.out; omega
        · have hvr : IsVec (fun k => g + 1 ≤ k) (wr.alloc (.cells #[.int .u8 (byteAt N k).toNat] 5)) 5 1 (.slice p m q) ([115, 101, 99, 114, 101, 116] ++ layC N 8 c : List UInt8).length (bys ([115, 101, 99, 114, 101, 116] ++ layC N 8 c)) := by rw [hlen]; exact hv.modNil hm0
          obtain ⟨v7, w7, h1, h2, h3⟩ := bytes_append (m := [byteAt N k]) 22 hvr (row_one (byteAt N k) _ rfl) (by rw [hlen]; simp; omega)
          rw [List.length_append, hlen] at h2
          refine ⟨v7, w7, h1, h2.mono (fun j _ hj => hj.elim id (fun hj => ?_)), h3⟩
          have := hm0.size; have := HMR.out.size; have := HS1.out; omega
      obtain ⟨v7, w7, hrun, hvec, hmod⟩ := happ
      have hnext : [115, 101, 99, 114, 101, 116] ++ layC N 8 (c + 1) = ([115, 101, 99, 114, 101, 116] ++ layC N 8 c) ++ [byteAt N k] := by rw [layC_succ, hk, List.append_assoc]
      rw [← hnext] at hvec
      obtain ⟨p7, q7, rfl⟩ := hvec.form
      rw [hb] at hrun
      have HRUN := Lib.hid hrun
      have HV7 : Hid ((c + 1 = 0 ∧ p7 = some ⟨g, 0, none⟩ ∧ q7 = 6) ∨ (0 < c + 1 ∧ IsVec (fun k => g + 1 ≤ k) w7 5 1 (.slice p7 (m + 1) q7) (m + 1) (bys ([115, 101, 99, 114, 101, 116] ++ layC N 8 (c + 1))))) := Lib.hid (.inr ⟨by omega, hvec⟩)
      have HM7 : Hid (Mod nil w1 w7) := Lib.hid ((HMR.out.thenNil hm0).trans hmod (fun i hi h => by have := HS1.out; omega))
      clear hlen hb hbi hm0 hrun hvec hmod hnext hk
      go_wp2_with (first | (at_builtin; refine wpList_append_run rfl _ _ _ _ rfl rfl rfl HRUN.out ?_))
      exact ⟨⟨c + 1, m + 1, _, p7, q7, by omega, rfl, Lib.hid (by have := HX.out; omega), Lib.hid (by have := HMC.out; omega), by have := HMC.out; omega, rfl, HV7, HM7⟩, by simp [intOf] <;> omega⟩
    · obtain rfl : c = 8 := by omega
      obtain rfl : x = -1 := by have := HX.out; omega
      obtain rfl : m = 14 := HMC.out
      have hvf := HVR.out.resolve_left (fun h => by omega)
      have hrow := hvf.2.row
      have HMW := Lib.hid (HM1.out.thenNil HMR.out)
      rw [← HMSG.out] at hrow
      have HROW := Lib.hid hrow
      have HTR := Lib.hid (HT.out.mod HMW.out (not_nil _))
      have htb := HT.out.lt
      have hml : (secretMsg n).length = 14 := by rw [HMSG.out]; rfl
      have HML := Lib.hid hml
      clear hrow hml hvf
      go_wp2_with fail
      refine (shaOne tb (fun k => g + 1 ≤ k ∧ k < wr.heap.size) _ (secretMsg n) wr HTR.out (by
        obtain ⟨p', c', hp, hcc⟩ := HROW.out
        refine ⟨p', c', hp, fun i hi => ?_⟩
        obtain ⟨b', o', h1, h2, h3, h4⟩ := hcc i hi
        exact ⟨b', o', h1, ⟨h2, h3⟩, h3, h4⟩) (fun k hk => ⟨hk.2, by have := HG.out; omega⟩) (by rw [HML.out]; omega)).mono ?_
      rintro e w9 ⟨v9, rfl, hv9, ht9, hm9⟩
      have hcells := hv9.cells
      obtain ⟨p9, c9, rfl⟩ := hv9.form
      have hl9 := shaOf_length (secretMsg n)
      obtain ⟨b9, hp9⟩ : ∃ b9, p9 = some ⟨b9, 0, none⟩ := by
        rcases vec_form1 hv9 with ⟨_, h0⟩ | ⟨g', c', he, _⟩
        · cases h0
        · simp only [Value.slice.injEq] at he
          exact ⟨g', he.1⟩
      subst hp9
      have hcvt := run_convert_bytes_back (P := Try.prog) w9 22 9 5 ⟨b9, 0, none⟩ c9 (shaOf (secretMsg n)) Try.underlying22 Try.underlying5 Try.underlying9 (fun j hj => by
        obtain ⟨p', c', hp, hcc⟩ := hcells
        obtain ⟨b', o', h1, _, _, h4⟩ := hcc j (by rw [bys_length]; exact hj)
        simp only [Value.slice.injEq] at hp
        obtain ⟨rfl, -, -⟩ := hp
        simp only [Option.some.injEq, Addr.mk.injEq, and_true] at h1
        obtain ⟨rfl, rfl⟩ := h1
        have h2 : (⟨b9, 0, none⟩ : Addr).add j = ⟨b9, 0 + j, none⟩ := by unfold Addr.add; split <;> simp_all
        rw [h2, h4, bys_getD _ _ hj, List.getD_eq_getElem?_getD, List.getElem?_eq_getElem hj]
        rfl)
      rw [hl9] at hcvt
      have HF := Lib.hid (And.intro ht9 ((HMW.out.ofNil (S := (· = tb))).trans hm9 (fun _ _ h => h)))
      obtain ⟨tx, htx⟩ : ∃ tx, (⟨(shaOf (secretMsg n)).toArray⟩ : ByteArray) = tx := ⟨_, rfl⟩
      rw [htx] at hcvt
      have HTX : Hid (textOf (shaOf (secretMsg n)) = tx) := Lib.hid htx
      clear hcells hv9 ht9 hm9 hl9 htx
      go_wp2_with fail
      exact HPOST.out _ _ ⟨by rw [HTX.out]; rfl, HF.out.1, HF.out.2⟩
end Go.Proofs.Ytlkhihdgaimboaa

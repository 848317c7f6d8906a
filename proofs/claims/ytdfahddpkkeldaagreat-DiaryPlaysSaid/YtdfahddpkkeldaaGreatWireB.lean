/- Package wire. (Printed by wip/tools/gen_wire.py.) -/
import Derived.Test.YtdfahddpkkeldaaGreatShort
import Derived.Test.YtdfahddpkkeldaaGreatNb
import Derived.Test.YtdfahddpkkeldaaGreatStep
import Derived.Test.YtdfahddpkkeldaaGreatTailB
namespace Go.Proofs.YtdfahddpkkeldaaGreat
open Go.RowKit
/-- a writer at block b, all of it from block B on: it has written l -/
structure IsEnc (B : Nat) (w : World) (b : Nat) (l : List UInt8) : Prop where
 lo : B ≤ b
 ex : ∃ p q, w.heap[b]? = some (.cells #[.slice p l.length q, .int .i64 0] 168 (0, 0)) ∧ IsVec (fun k => B ≤ k ∧ k ≠ b) w 5 1 (.slice p l.length q) l.length (bys l)
theorem IsEnc.mod {B : Nat} {T : Nat → Prop} {w w' : World} {b : Nat} {l : List UInt8} (h : IsEnc B w b l) (m : Mod T w w') (hs : ∀ k, k < w.heap.size → B ≤ k → ¬ T k) : IsEnc B w' b l := by
 obtain ⟨p, q, h1, h2⟩ := h.ex
 exact ⟨h.lo, p, q, (m.block b (heap_lt h1) (hs b (heap_lt h1) h.lo)).trans h1, h2.mod m (fun k hk h => hs k hk h.1)⟩
theorem IsEnc.modNil {B : Nat} {w w' : World} {b : Nat} {l : List UInt8} (h : IsEnc B w b l) (m : Mod nil w w') : IsEnc B w' b l := h.mod m (fun _ _ _ h => h)
/-- .. all of it at blocks of S -/
structure IsEncS (S : Nat → Prop) (w : World) (b : Nat) (l : List UInt8) : Prop where
 lo : S b
 ex : ∃ p q, w.heap[b]? = some (.cells #[.slice p l.length q, .int .i64 0] 168 (0, 0)) ∧ IsVec (fun k => S k ∧ k ≠ b) w 5 1 (.slice p l.length q) l.length (bys l)
theorem IsEncS.mono {S T : Nat → Prop} {w : World} {b : Nat} {l : List UInt8} (h : IsEncS S w b l) (hs : ∀ k, k < w.heap.size → S k → T k) : IsEncS T w b l := by
 obtain ⟨p, q, h1, h2⟩ := h.ex
 exact ⟨hs b (heap_lt h1) h.lo, p, q, h1, h2.mono (fun k hk h => ⟨hs k hk h.1, h.2⟩)⟩
theorem IsEncS.mod {S T : Nat → Prop} {w w' : World} {b : Nat} {l : List UInt8} (h : IsEncS S w b l) (m : Mod T w w') (hs : ∀ k, k < w.heap.size → S k → ¬ T k) : IsEncS S w' b l := by
 obtain ⟨p, q, h1, h2⟩ := h.ex
 exact ⟨h.lo, p, q, (m.block b (heap_lt h1) (hs b (heap_lt h1) h.lo)).trans h1, h2.mod m (fun k hk h => hs k hk h.1)⟩
theorem IsEncS.modNil {S : Nat → Prop} {w w' : World} {b : Nat} {l : List UInt8} (h : IsEncS S w b l) (m : Mod nil w w') : IsEncS S w' b l := h.mod m (fun _ _ _ h => h)
theorem IsEnc.wide {B : Nat} {w : World} {b : Nat} {l : List UInt8} (h : IsEnc B w b l) : IsEncS (fun k => B ≤ k) w b l := ⟨h.lo, h.ex⟩
theorem IsEncS.base {B : Nat} {w : World} {b : Nat} {l : List UInt8} (h : IsEncS (fun k => B ≤ k) w b l) : IsEnc B w b l := ⟨h.lo, h.ex⟩
theorem wireNewEnc (w : World) : Calls Tryz.prog 76 #[] w fun e w' => ∃ b, e = .returned (.pointer (some ⟨b, 0, none⟩)) ∧ IsEnc w.heap.size w' b [] ∧ Mod nil w w' := by
 go_enter Tryz.func76, Tryz.ntmps76
 go_wp2_with fail
 go_ret
 exact ⟨_, rfl, ⟨Nat.le_refl _, none, 0, heap_alloc_new _ _, IsVec.nil _ _ _ _⟩, (Mod.refl _ _).alloc _⟩
theorem wireMay (size : Nat) (h1 : 1 ≤ size) (h8 : size ≤ 8) (w : World) : Calls Tryz.prog 111 #[.int .i64 size] w fun e w' => e = .returned (.bool true) ∧ w = w' := by
 go_enter Tryz.func111, Tryz.ntmps111
 go_wp2_with fail
 go_ret
 exact ⟨by simp; try omega, rfl⟩
set_option maxRecDepth 100000 in
set_option maxHeartbeats 1000000 in
theorem encNumS (S : Nat → Prop) (b : Nat) (l : List UInt8) (n size : Nat) (W0 : World) (h : IsEncS S W0 b l) (hB : ∀ k, W0.heap.size ≤ k → S k) (h1 : 1 ≤ size) (h8 : size ≤ 8) (hn : n ≤ 4611686018427387904) (hfit : n < 2 ^ (8 * size)) (hl : l.length ≤ 1099511627776) :
  Calls Tryz.prog 77 #[.pointer (some ⟨b, 0, none⟩), .int .i64 n, .int .i64 size] W0 fun e w' => e = .returned (.tuple #[]) ∧ IsEncS S w' b (l ++ layC n size size) ∧ Mod S W0 w' := by
 obtain ⟨p0, q0, hb0, hv0⟩ := h.ex
 have HLO := Lib.hid h.lo
 have HB0 := Lib.hid hb0
 have HV0 := Lib.hid hv0
 have c0 := cell_of hb0 1
 simp only [List.getElem?_toArray, List.getElem?_cons_zero, List.getElem?_cons_succ] at c0
 have hdiv : (n : Int) / 2 ^ (8 * size) = 0 := by
  rw [show (n : Int) / 2 ^ (8 * size) = ((n / 2 ^ (8 * size) : Nat) : Int) by simp, Nat.div_eq_of_lt hfit]; rfl
 have hA : decide (0 ≤ (n : Int) ∧ (n : Int) ≤ 4611686018427387904) = true := decide_eq_true ⟨by omega, by omega⟩
 clear hfit hb0 hv0 h
 go_enter Tryz.func77, Tryz.ntmps77
 go_wp2_with fail
 refine (wireMay size h1 h8 _).mono ?_
 rintro e w1 ⟨rfl, rfl⟩
 go_wp2_with fail
 refine (numAmount _ _).mono ?_
 rw [hA]
 rintro e w1 ⟨rfl, rfl⟩
 by_cases hs8 : size < 8
 all_goals
  go_wp2_with fail
  clear c0 hdiv hA
  go_loopw [6] (fun v6 wr => ∃ (c : Nat) (x : Int), c ≤ size ∧ v6 = .int .i64 x ∧ Hid (x = (size : Int) - 1 - c) ∧ Hid (IsEncS S wr b (l ++ layC n size c)) ∧ Hid (Mod S W0 wr)) (fun v _ => (intOf v + 1).toNat)
  case atStart => exact ⟨0, _, by omega, rfl, Lib.hid (by omega), Lib.hid (by rw [show l ++ layC n size 0 = l from List.append_nil l]; exact ⟨HLO.out, _, _, HB0.out, HV0.out⟩), Lib.hid (Mod.refl _ _)⟩
  case round =>
   obtain ⟨c, x, hc, rfl, HX, HER, HMR⟩ := hrel
   by_cases hlt : c < size
   ·obtain ⟨k, rfl⟩ : ∃ k : Nat, x = k := ⟨size - 1 - c, by have := HX.out; omega⟩
    have hk : size - 1 - c = k := by have := HX.out; omega
    have hk8 : k < 8 := by omega
    obtain ⟨p, q, hbr, hvr⟩ := HER.out.ex
    obtain ⟨N, hN⟩ : ∃ N, (l ++ layC n size c).length = N := ⟨_, rfl⟩
    have hNl : N ≤ 1099511627784 := by rw [← hN, List.length_append, layC_length]; omega
    rw [hN] at hbr hvr
    have HN := Lib.hid hN
    have HBR := Lib.hid hbr
    have HVR := Lib.hid hvr
    have c0 := cell_of hbr 0
    simp only [List.getElem?_toArray, List.getElem?_cons_zero] at c0
    have hbl := heap_lt hbr
    have ca : ∀ ob, (wr.alloc ob).cell? ⟨b, 0, none⟩ = some (.slice p N q) := fun ob => cell_kept c0 ((Mod.refl nil _).alloc ob) hbl (not_nil _)
    have hb : ((byteAt n k).toNat : Int) = (n : Int) / 2 ^ (8 * k) % 256 := by rw [byteAt_nat]; simp
    have hw : IntKind.u8.wrap ((n : Int) / 2 ^ (8 * k)) = ((byteAt n k).toNat : Int) := by rw [IntKind.wrap_u8, hb]
    have hnat : (8 * (k : Int)).toNat = 8 * k := by omega
    have hmul : IntKind.i64.wrap (8 * (k : Int)) = 8 * (k : Int) := by rw [IntKind.wrap_i64]; omega
    have hB' : ∀ k, wr.heap.size ≤ k → S k := fun k hk => hB k (by have := HMR.out.size; omega)
    have HK := Lib.hid hk
    clear hN hbr hvr hb hk
    go_upto_region 6 with (fail)
    refine region_till (fun w' => w'.cell? ⟨b, 0, none⟩ = some (.slice p N q)) 11 (by kernel_rfl) ?_
    refine sF 0 (fun _ => c0) ?_
    refine sF 1 (fun _ => c0) ?_
    refine sF 2 (fun _ => c0) ?_
    refine sF 3 (fun _ => c0) ?_
    refine sT 4 (c0) ?_
    refine sF 5 (fun _ => c0) ?_
    refine sF 6 (fun _ => c0) ?_
    refine sF 7 (fun _ => c0) ?_
    refine sF 8 (fun _ => c0) ?_
    refine sF 9 (fun _ => c0) ?_
    refine rT 10 (fun K hK => ?_)
    go_simp
    refine hK.out _ _ (fun _ => ca _) ?_
    clear hK K
    (try simp only [Act.put, pT])
    have hm1 : Mod nil wr (wr.alloc (.cells #[.int .u8 (byteAt n k).toNat] 5)).drew := ((Mod.refl nil wr).alloc _).drew
    have hx1 : IsRow (· = wr.heap.size) (wr.alloc (.cells #[.int .u8 (byteAt n k).toNat] 5)).drew (.slice (some ⟨wr.heap.size, 0, none⟩) 1 1) (bys [byteAt n k]) := (row_one (byteAt n k) _ rfl).modNil ((Mod.refl nil _).drew)
    refine rT 11 (fun K hK => ?_)
    obtain ⟨i0, hi0, hz0, hz1, hz2⟩ := info_parts info_u8
    refine step_append_vec (S := fun k => S k ∧ k ≠ b) rfl _ _ _ rfl 5 i0 _ 1 1 Tryz.underlying40 hi0 hz0 hz1 hz2 rfl (by omega) _ N (bys (l ++ layC n size c)) rfl (HVR.out.modNil hm1) _ 1 _ rfl hx1.cells (by simp [bys]) (bys_one _) (by unfold maxLen; omega) (by omega) ?_
    intro v7 w7 hv7 hm7
    obtain ⟨p7, q7, rfl⟩ := hv7.form
    have hb7 : w7.heap[b]? = some (.cells #[.slice p N q, .int .i64 0] 168 (0, 0)) := (hm7.block b (by have := heap_lt (hm1.keep HBR.out); omega) (fun h => h.2 rfl)).trans (hm1.keep HBR.out)
    have c7 := cell_of hb7 0
    have z7 := free_of hb7 0
    simp only [List.getElem?_toArray, List.getElem?_cons_zero] at c7
    have HV7 : Hid (IsVec (fun k => S k ∧ k ≠ b) w7 5 1 (.slice p7 (N + 1) q7) (N + 1) (bys (l ++ layC n size c) ++ bys [byteAt n k])) := Lib.hid (hv7.mono (fun j _ h => h.elim id (fun h => by have := hm1.size; exact ⟨hB' j (by omega), by omega⟩)))
    have HM7 : Hid (Mod S W0 w7) := Lib.hid ((HMR.out.thenNil hm1).trans hm7 (fun k _ h => h.1))
    have HB7 := Lib.hid hb7
    have hs7 : wr.heap.size ≤ w7.heap.size := Nat.le_trans hm1.size hm7.size
    clear hv7 hm7 hm1 hx1 hi0 hz0 hz1 hz2 hb7
    refine hK.out _ _ (fun _ => c7) ?_
    clear hK K
    (try simp only [Act.put, pT])
    refine rT 12 (fun K hK => ?_)
    go_simp
    refine hK.out _ _ (fun _ => c7) ?_
    clear hK K
    (try simp only [Act.put, pT])
    refine rT 13 (fun K hK => ?_)
    go_simp
    refine hK.out _ _ (fun _ => c7) ?_
    clear hK K
    (try simp only [Act.put, pT])
    refine rT 14 (fun K hK => ?_)
    go_simp
    refine hK.out _ _ (fun h => (by simp at h)) ?_
    clear hK K
    (try simp only [Act.put, pT])
    refine till_done (by kernel_rfl) ?_ _
    go_wp2_with fail
    refine ⟨⟨c + 1, _, by omega, rfl, Lib.hid (by have := HX.out; omega), Lib.hid ?_, Lib.hid ?_⟩, by simp [intOf] <;> omega⟩
    ·have e : l ++ layC n size (c + 1) = (l ++ layC n size c) ++ [byteAt n k] := by rw [layC_succ, HK.out, List.append_assoc]
     have el : ((l ++ layC n size c) ++ [byteAt n k]).length = N + 1 := by rw [List.length_append, HN.out]; rfl
     rw [e]
     refine ⟨HLO.out, p7, q7, ?_, ?_⟩
     ·rw [el]; exact heap_setCell_same HB7.out (.slice p7 (N + 1) q7) (off := 0)
     ·rw [el, bys_append]
      exact HV7.out.mod (T := (· = b)) ((Mod.refl (· = b) w7).setCell _ _ (fun _ => rfl)) (fun j _ h1 h2 => h1.2 h2)
    ·exact HM7.out.setCell _ _ (fun _ => HLO.out)
   ·obtain rfl : c = size := by omega
    obtain rfl : x = -1 := by have := HX.out; omega
    go_wp2_with fail
    go_end0
    exact ⟨rfl, HER.out, HMR.out⟩
theorem encNum (B b : Nat) (l : List UInt8) (n size : Nat) (W0 : World) (h : IsEnc B W0 b l) (hB : B ≤ W0.heap.size) (h1 : 1 ≤ size) (h8 : size ≤ 8) (hn : n ≤ 4611686018427387904) (hfit : n < 2 ^ (8 * size)) (hl : l.length ≤ 1099511627776) :
  Calls Tryz.prog 77 #[.pointer (some ⟨b, 0, none⟩), .int .i64 n, .int .i64 size] W0 fun e w' => e = .returned (.tuple #[]) ∧ IsEnc B w' b (l ++ layC n size size) ∧ Mod (fun k => B ≤ k) W0 w' :=
 (encNumS (fun k => B ≤ k) b l n size W0 h.wide (fun k hk => by omega) h1 h8 hn hfit hl).mono fun e w' ⟨a, h, m⟩ => ⟨a, h.base, m⟩
theorem encDone (B b : Nat) (l : List UInt8) (W0 : World) (h : IsEnc B W0 b l) (hl : l.length ≤ 1099511627776) :
  Calls Tryz.prog 78 #[.pointer (some ⟨b, 0, none⟩)] W0 fun e w' => ∃ v, e = .returned (.tuple #[v, .int .i64 0]) ∧ IsVec (fun k => W0.heap.size ≤ k) w' 5 1 v l.length (bys l) ∧ Mod nil W0 w' := by
 obtain ⟨p0, q0, hb0, hv0⟩ := h.ex
 have c0 := cell_of hb0 0
 have c1 := cell_of hb0 1
 simp only [List.getElem?_toArray, List.getElem?_cons_zero, List.getElem?_cons_succ] at c0 c1
 have HV0 := Lib.hid hv0
 clear hb0 hv0 h
 go_enter Tryz.func78, Tryz.ntmps78
 go_wp2_with fail
 refine (cloneBytes _ _ l W0 HV0.out.row (by omega)).mono ?_
 rintro e w' ⟨v, rfl, hv, hm⟩
 go_wp2_with fail
 go_ret2
 exact ⟨v, rfl, hv, hm⟩
end Go.Proofs.YtdfahddpkkeldaaGreat

/- Package wire: reading. -/
namespace Go.Proofs.YtdfahddpkkeldaaGreat
open Go.RowKit
/-- the number that bytes spell, the highest byte first -/
def beN (l : List UInt8) : Nat := l.foldl (fun n c => n * 256 + c.toNat) 0
theorem beN_snoc (l : List UInt8) (c : UInt8) : beN (l ++ [c]) = beN l * 256 + c.toNat := by simp [beN]
theorem beN_take (l : List UInt8) (i : Nat) (h : i < l.length) : beN (l.take (i + 1)) = beN (l.take i) * 256 + (l.getD i 0).toNat := by
 rw [List.take_succ_eq_append_getElem h, beN_snoc, List.getD_eq_getElem?_getD, List.getElem?_eq_getElem h]; rfl
theorem beN_take_lt (l : List UInt8) (i : Nat) (h : i ≤ l.length) : beN (l.take i) < 256 ^ i := by
  induction i with
  | zero => simp [beN]
  | succ i ih =>
    rw [beN_take l i (by omega), Nat.pow_succ]
    have := ih (by omega)
    have := UInt8.toNat_lt (l.getD i 0)
    omega
/-- what number tells of bytes that it begins with: the number, and the error -/
def numF (l : List UInt8) (size : Nat) : Int × Int :=
 if l.length < size then (0, 2) else if 4611686018427387904 < beN (l.take size) then (0, 2) else (beN (l.take size), 0)
theorem or_byte (v c : Nat) (hv : v < 72057594037927936) (hc : c < 256) : bits .or .u64 ((v : Int) * 256) (c : Int) = ((v * 256 + c : Nat) : Int) := by
  have h1 : (BitVec.ofInt 64 ((v : Int) * 256) ||| BitVec.ofInt 64 (c : Int)).toNat = v * 256 + c := by
    rw [BitVec.toNat_or, BitVec.toNat_ofInt, BitVec.toNat_ofInt, show ((2 ^ 64 : Nat) : Int) = 18446744073709551616 from rfl]
    have e1 : (((v : Int) * 256) % 18446744073709551616).toNat = v * 256 := by
      rw [Int.emod_eq_of_lt (by omega) (by omega)]; omega
    have e2 : ((c : Int) % 18446744073709551616).toNat = c := by
      rw [Int.emod_eq_of_lt (by omega) (by omega)]; omega
    rw [e1, e2]
    have := Nat.shiftLeft_add_eq_or_of_lt (i := 8) (b := c) (by simpa using hc) v
    rw [Nat.shiftLeft_eq] at this
    simpa using this.symm
  show IntKind.u64.wrap ((BitVec.ofInt 64 ((v : Int) * 256) ||| BitVec.ofInt 64 (c : Int)).toNat : Int) = _
  rw [h1]
  simp only [IntKind.wrap, IntKind.bits, IntKind.signed]
  simp
  omega
set_option maxHeartbeats 1000000 in
theorem wireNumber (T : Nat → Prop) (p : Option Addr) (len cap : Nat) (l : List UInt8) (size : Nat) (w : World) (hrow : IsRow T w (.slice p len cap) (bys l)) (hcap : len ≤ cap) (h1 : 1 ≤ size) (h8 : size ≤ 8) :
  Calls Tryz.prog 133 #[.slice p len cap, .int .i64 size] w fun e w' => e = .returned (.tuple #[.int .i64 (numF l size).1, .int .i64 (numF l size).2]) ∧ w = w' := by
 have hll : l.length = len := by
  obtain ⟨_, _, h, _⟩ := hrow
  simp only [Value.slice.injEq, bys_length] at h
  exact h.2.1.symm
 by_cases hs : len < size
 ·have e : numF l size = (0, 2) := by unfold numF; rw [if_pos (by omega)]
  rw [e]
  clear hrow hll e
  go_enter Tryz.func133, Tryz.ntmps133
  go_wp2_with fail
  refine (wireMay size h1 h8 _).mono ?_
  rintro e w1 ⟨rfl, rfl⟩
  go_wp2_with fail
  go_ret2
  exact ⟨rfl, rfl⟩
 ·have HROW := Lib.hid hrow
  have HLL := Lib.hid hll
  clear hrow hll
  obtain ⟨F, hF⟩ : ∃ F, numF l size = F := ⟨_, rfl⟩
  have HF := Lib.hid hF
  rw [hF]
  clear hF
  go_enter Tryz.func133, Tryz.ntmps133
  go_wp2_with fail
  refine (wireMay size h1 h8 _).mono ?_
  rintro e w1 ⟨rfl, rfl⟩
  go_wp2_with fail
  go_loop [6, 20] (fun v6 v20 => ∃ i x : Nat, i ≤ size ∧ v20 = .int .i64 i ∧ v6 = .int .u64 x ∧ Hid (x = beN (l.take i))) (fun _ v => size - (intOf v).toNat)
  case atStart => exact ⟨0, 0, by omega, rfl, rfl, Lib.hid rfl⟩
  case round =>
   obtain ⟨i, x, hi, rfl, rfl, HX⟩ := hrel
   by_cases hlt : i < size
   ·obtain ⟨g, o, rfl, hc⟩ : ∃ g o, p = some ⟨g, o, none⟩ ∧ w.cell? ⟨g, o + i, none⟩ = some (.int .u8 (l.getD i 0).toNat) := by
     obtain ⟨p', c', hp, hcc⟩ := HROW.out
     obtain ⟨b', o', q1, q2, q3, q4⟩ := hcc i (by rw [bys_length, HLL.out]; omega)
     simp only [Value.slice.injEq] at hp
     obtain ⟨rfl, -, -⟩ := hp
     rw [bys_getD _ _ (by rw [HLL.out]; omega)] at q4
     exact ⟨b', o', q1, q4⟩
    have hx56 : x < 72057594037927936 := by
     have h1 := beN_take_lt l i (by have := HLL.out; omega)
     have h2 : 256 ^ i ≤ 256 ^ 7 := Nat.pow_le_pow_right (by omega) (by omega)
     rw [← HX.out] at h1
     have h3 : (256 : Nat) ^ 7 = 72057594037927936 := by decide
     omega
    have hnext : beN (l.take (i + 1)) = x * 256 + (l.getD i 0).toNat := by rw [beN_take l i (by have := HLL.out; omega), HX.out]
    obtain ⟨d, hd⟩ : ∃ d, (l.getD i 0).toNat = d := ⟨_, rfl⟩
    have hd256 : d < 256 := by rw [← hd]; exact UInt8.toNat_lt _
    rw [hd] at hc hnext
    have HNX := Lib.hid hnext
    have hor := or_byte x d hx56 hd256
    obtain ⟨y, hy⟩ : ∃ y, x * 256 + d = y := ⟨_, rfl⟩
    rw [hy] at hor
    have HY := Lib.hid hy
    clear hnext hd hy
    go_wp2_with fail
    exact ⟨⟨i + 1, y, by omega, by go_num, rfl, Lib.hid (by rw [HNX.out, HY.out])⟩, by simp [intOf]; omega⟩
   ·obtain rfl : i = size := by omega
    have hx64 : x < 18446744073709551616 := by
     have h1 := beN_take_lt l i (by have := HLL.out; omega)
     have h2 : 256 ^ i ≤ 256 ^ 8 := Nat.pow_le_pow_right (by omega) (by omega)
     rw [← HX.out] at h1
     have h3 : (256 : Nat) ^ 8 = 18446744073709551616 := by decide
     omega
    by_cases hbig : 4611686018427387904 < x
    ·have hF : F = (0, 2) := by rw [← HF.out]; unfold numF; rw [if_neg (by have := HLL.out; omega), ← HX.out, if_pos hbig]
     have HFF := Lib.hid hF
     have hb' : (4611686018427387904 : Int) < (x : Int) := by omega
     clear hF
     go_wp2_with fail
     go_ret2
     exact ⟨by rw [HFF.out]; rfl, rfl⟩
    ·have hF : F = ((x : Int), 0) := by rw [← HF.out]; unfold numF; rw [if_neg (by have := HLL.out; omega), ← HX.out, if_neg hbig]
     have HFF := Lib.hid hF
     have hb' : ¬ (4611686018427387904 : Int) < (x : Int) := by omega
     have hxw : IntKind.i64.wrap (x : Int) = (x : Int) := by rw [IntKind.wrap_i64]; omega
     clear hF
     go_wp2_with fail
     go_ret2
     exact ⟨by rw [HFF.out]; rfl, rfl⟩
theorem row_drop {S : Nat → Prop} {w : World} {g o n c : Nat} {xs : List Value} (h : IsRow S w (.slice (some ⟨g, o, none⟩) n c) xs) (k : Nat) (hk : k ≤ xs.length) : IsRow S w (.slice (some ⟨g, o + k, none⟩) (n - k) (c - k)) (xs.drop k) := by
 obtain ⟨p', c', hv, hc⟩ := h
 simp only [Value.slice.injEq] at hv
 obtain ⟨rfl, rfl, rfl⟩ := hv
 refine ⟨_, c - k, by rw [List.length_drop], fun i hi => ?_⟩
 rw [List.length_drop] at hi
 obtain ⟨b, off, h1, h2, h3, h4⟩ := hc (k + i) (by omega)
 simp only [Option.some.injEq, Addr.mk.injEq, and_true] at h1
 obtain ⟨rfl, rfl⟩ := h1
 refine ⟨g, o + k, rfl, h2, h3, ?_⟩
 rw [Nat.add_assoc, h4, List.getD_eq_getElem?_getD, List.getD_eq_getElem?_getD, List.getElem?_drop]
theorem row_some {S : Nat → Prop} {w : World} {p : Option Addr} {n c : Nat} {xs : List Value} (h : IsRow S w (.slice p n c) xs) (hn : 0 < n) : ∃ g o, p = some ⟨g, o, none⟩ ∧ S g ∧ g < w.heap.size := by
 obtain ⟨p', c', hv, hc⟩ := h
 simp only [Value.slice.injEq] at hv
 obtain ⟨rfl, rfl, rfl⟩ := hv
 obtain ⟨b, off, h1, h2, h3, h4⟩ := hc 0 hn
 exact ⟨b, off, h1, h2, h3⟩
theorem bys_drop (l : List UInt8) (k : Nat) : bys (l.drop k) = (bys l).drop k := by simp [bys, List.map_drop]
/-- a reader at block b: what it has not read, and its error -/
structure IsDec (S : Nat → Prop) (w : World) (b : Nat) (l : List UInt8) (e : Int) : Prop where
 ex : ∃ p q, l.length ≤ q ∧ q ≤ maxLen ∧ w.heap[b]? = some (.cells #[.slice p l.length q, .int .i64 e] 194 (0, 0)) ∧ IsRow S w (.slice p l.length q) (bys l)
theorem IsDec.mod {S T : Nat → Prop} {w w' : World} {b : Nat} {l : List UInt8} {e : Int} (h : IsDec S w b l e) (m : Mod T w w') (hb : ¬ T b) (hs : ∀ k, k < w.heap.size → S k → ¬ T k) : IsDec S w' b l e := by
 obtain ⟨p, q, h1, h2, h3, h4⟩ := h.ex
 exact ⟨p, q, h1, h2, (m.block b (heap_lt h3) hb).trans h3, h4.mod m hs⟩
theorem IsDec.lt {S : Nat → Prop} {w : World} {b : Nat} {l : List UInt8} {e : Int} (h : IsDec S w b l e) : b < w.heap.size := by
 obtain ⟨p, q, h1, h2, h3, h4⟩ := h.ex
 exact heap_lt h3
/-- what Num tells, and what is left -/
def decN (l : List UInt8) (e : Int) (size : Nat) : Int × List UInt8 × Int :=
 if e ≠ 0 then (0, l, e) else if (numF l size).2 ≠ 0 then (0, l, (numF l size).2) else ((numF l size).1, l.drop size, 0)
theorem wireNewDec (T : Nat → Prop) (v : Value) (l : List UInt8) (w : World) (h : IsRow T w v (bys l)) (hl : l.length ≤ 1099511627776) :
  Calls Tryz.prog 118 #[v] w fun e w' => ∃ b, e = .returned (.pointer (some ⟨b, 0, none⟩)) ∧ w.heap.size ≤ b ∧ IsDec (fun k => w.heap.size ≤ k ∧ k ≠ b) w' b l 0 ∧ Mod nil w w' := by
 have HROW := Lib.hid h
 obtain ⟨p, c, rfl, _⟩ := h
 rw [bys_length] at HROW ⊢
 go_enter Tryz.func118, Tryz.ntmps118
 go_wp2_with fail
 refine (cloneBytes T _ l w HROW.out (by omega)).mono ?_
 rintro e w1 ⟨v', rfl, hv, hm⟩
 have hcapm : ∃ p' c', v' = .slice p' l.length c' ∧ l.length ≤ c' ∧ c' ≤ maxLen := by
  rcases hv.1.2 with ⟨rfl, h0⟩ | ⟨g, cap, cur, rfl, _, _, h, hcm, _⟩
  ·exact ⟨none, 0, by rw [h0], by omega, by unfold maxLen; omega⟩
  ·exact ⟨_, _, rfl, h, hcm⟩
 obtain ⟨p', c', rfl, hc1, hc2⟩ := hcapm
 have HV := Lib.hid hv
 have HM := Lib.hid hm
 clear hv hm
 go_wp2_with fail
 go_ret
 refine ⟨w1.heap.size, rfl, HM.out.size, ⟨p', c', hc1, hc2, heap_alloc_new _ _, ?_⟩, HM.out.alloc _⟩
 exact (HV.out.row.mono (fun k hk h => ⟨h, by omega⟩)).modNil ((Mod.refl nil w1).alloc _)
set_option maxHeartbeats 1000000 in
theorem decNum (S : Nat → Prop) (b : Nat) (l : List UInt8) (er : Int) (size : Nat) (w : World) (h : IsDec S w b l er) (hS : ¬ S b) (h1 : 1 ≤ size) (h8 : size ≤ 8) :
  Calls Tryz.prog 119 #[.pointer (some ⟨b, 0, none⟩), .int .i64 size] w fun e w' => e = .returned (.int .i64 (decN l er size).1) ∧ IsDec S w' b (decN l er size).2.1 (decN l er size).2.2 ∧ Mod (· = b) w w' := by
 obtain ⟨p, q, hq, hqm, hb, hrow⟩ := h.ex
 have c0 := cell_of hb 0
 have c1 := cell_of hb 1
 have z0 := free_of hb 0
 have z1 := free_of hb 1
 simp only [List.getElem?_toArray, List.getElem?_cons_zero, List.getElem?_cons_succ] at c0 c1
 have HH := Lib.hid h
 have HB := Lib.hid hb
 have HROW := Lib.hid hrow
 unfold maxLen at hqm
 clear h hb hrow
 by_cases he : er = 0
 case neg =>
  have e1 : (er != 0) = true := by simpa using he
  have hd : decN l er size = (0, l, er) := by unfold decN; rw [if_pos he]
  rw [hd]
  clear hd
  go_enter Tryz.func119, Tryz.ntmps119
  go_wp2_with fail
  go_ret
  exact ⟨rfl, HH.out, Mod.refl _ _⟩
 case pos =>
  subst he
  obtain ⟨N, hN⟩ : ∃ N, l.length = N := ⟨_, rfl⟩
  rw [hN] at c0 hq HB HROW
  have HN := Lib.hid hN
  clear hN
  have hnum := wireNumber S p N q l size w HROW.out hq h1 h8
  obtain ⟨v, er, hF⟩ : ∃ v er, numF l size = (v, er) := ⟨_, _, rfl⟩
  rw [hF] at hnum
  by_cases her : er = 0
  case neg =>
   have e1 : (er != 0) = true := by simpa using her
   have hd : decN l 0 size = (0, l, er) := by unfold decN; rw [if_neg (by simp), hF, if_pos her]
   rw [hd]
   have HNUM := Lib.hid hnum
   clear hd hnum hF
   go_enter Tryz.func119, Tryz.ntmps119
   go_wp2_with fail
   refine HNUM.out.mono ?_
   rintro e w1 ⟨rfl, rfl⟩
   go_wp2_with fail
   go_ret
   exact ⟨rfl, ⟨p, q, by rw [HN.out]; exact hq, by unfold maxLen; omega, by rw [HN.out]; exact heap_setCell_same HB.out _ (off := 1), by rw [HN.out]; exact HROW.out.mod (T := (· = b)) ((Mod.refl (· = b) w).setCell _ _ (fun _ => rfl)) (fun k _ h e => hS (e ▸ h))⟩, (Mod.refl (· = b) w).setCell _ _ (fun _ => rfl)⟩
  case pos =>
   subst her
   have hsz : size ≤ N := by
    rw [← HN.out]
    unfold numF at hF
    split at hF
    ·simp at hF
    ·omega
   have hd : decN l 0 size = (v, l.drop size, 0) := by unfold decN; rw [if_neg (by simp), hF, if_neg (by simp)]
   rw [hd]
   have HNUM := Lib.hid hnum
   clear hd hnum hF
   obtain ⟨g, o, rfl, -, -⟩ := row_some HROW.out (by omega)
   have hld : (l.drop size).length = N - size := by rw [List.length_drop, HN.out]
   have HLD := Lib.hid hld
   clear hld
   rcases Nat.lt_or_ge size q with hlt | hge
   ·have hne : ¬ q = size := by omega
    go_enter Tryz.func119, Tryz.ntmps119
    go_wp2_with fail
    refine HNUM.out.mono ?_
    rintro e w1 ⟨rfl, rfl⟩
    go_wp2_with fail
    go_ret
    refine ⟨rfl, ⟨some ⟨g, o + size, none⟩, q - size, by rw [HLD.out]; omega, by unfold maxLen; omega, by rw [HLD.out]; exact heap_setCell_same HB.out _ (off := 0), ?_⟩, (Mod.refl (· = b) w).setCell _ _ (fun _ => rfl)⟩
    rw [HLD.out, bys_drop]
    exact (row_drop HROW.out size (by rw [bys_length, HN.out]; exact hsz)).mod (T := (· = b)) ((Mod.refl (· = b) w).setCell _ _ (fun _ => rfl)) (fun k _ h e => hS (e ▸ h))
   ·obtain rfl : q = size := by omega
    obtain rfl : N = q := by omega
    go_enter Tryz.func119, Tryz.ntmps119
    go_wp2_with fail
    refine HNUM.out.mono ?_
    rintro e w1 ⟨rfl, rfl⟩
    go_wp2_with fail
    go_ret
    have hd0 : l.drop N = [] := List.drop_eq_nil_of_le (by rw [HN.out]; exact Nat.le_refl _)
    refine ⟨rfl, ⟨some ⟨g, o, none⟩, 0, by rw [HLD.out]; omega, by unfold maxLen; omega, by rw [HLD.out]; simpa using heap_setCell_same HB.out (.slice (some ⟨g, o, none⟩) 0 0) (off := 0), ?_⟩, (Mod.refl (· = b) w).setCell _ _ (fun _ => rfl)⟩
    rw [hd0]
    exact ⟨_, 0, rfl, fun i hi => by simp [bys] at hi⟩
end Go.Proofs.YtdfahddpkkeldaaGreat

/- Package wire. (Printed by wip/tools/gen_wire.py.) -/
import Derived.Test.YtdfpmlfdmhlhcaaGreatNum
import Derived.Test.YtdfpmlfdmhlhcaaGreatShaNew
import Derived.Test.YtdfpmlfdmhlhcaaGreatStep
import Derived.Test.YtdfpmlfdmhlhcaaGreatTailB
import Derived.Test.YtdfpmlfdmhlhcaaGreatShaPlain
namespace Go.Proofs.YtdfpmlfdmhlhcaaGreat
open Go.RowKit
/-- a writer at block b, all of it from block B on: it has written l -/
structure IsEnc (B : Nat) (w : World) (b : Nat) (l : List UInt8) : Prop where
  lo : B ≤ b
  ex : ∃ p q, w.heap[b]? = some (.cells #[.slice p l.length q, .int .i64 0] 160 (0, 0)) ∧ IsVec (fun k => B ≤ k ∧ k ≠ b) w 5 1 (.slice p l.length q) l.length (bys l)
theorem IsEnc.mod {B : Nat} {T : Nat → Prop} {w w' : World} {b : Nat} {l : List UInt8} (h : IsEnc B w b l) (m : Mod T w w') (hs : ∀ k, k < w.heap.size → B ≤ k → ¬ T k) : IsEnc B w' b l := by
  obtain ⟨p, q, h1, h2⟩ := h.ex
  exact ⟨h.lo, p, q, (m.block b (heap_lt h1) (hs b (heap_lt h1) h.lo)).trans h1, h2.mod m (fun k hk h => hs k hk h.1)⟩
theorem IsEnc.modNil {B : Nat} {w w' : World} {b : Nat} {l : List UInt8} (h : IsEnc B w b l) (m : Mod nil w w') : IsEnc B w' b l := h.mod m (fun _ _ _ h => h)
/-- .. all of it at blocks of S -/
structure IsEncS (S : Nat → Prop) (w : World) (b : Nat) (l : List UInt8) : Prop where
  lo : S b
  ex : ∃ p q, w.heap[b]? = some (.cells #[.slice p l.length q, .int .i64 0] 160 (0, 0)) ∧ IsVec (fun k => S k ∧ k ≠ b) w 5 1 (.slice p l.length q) l.length (bys l)
theorem IsEncS.mono {S T : Nat → Prop} {w : World} {b : Nat} {l : List UInt8} (h : IsEncS S w b l) (hs : ∀ k, k < w.heap.size → S k → T k) : IsEncS T w b l := by
  obtain ⟨p, q, h1, h2⟩ := h.ex
  exact ⟨hs b (heap_lt h1) h.lo, p, q, h1, h2.mono (fun k hk h => ⟨hs k hk h.1, h.2⟩)⟩
theorem IsEncS.mod {S T : Nat → Prop} {w w' : World} {b : Nat} {l : List UInt8} (h : IsEncS S w b l) (m : Mod T w w') (hs : ∀ k, k < w.heap.size → S k → ¬ T k) : IsEncS S w' b l := by
  obtain ⟨p, q, h1, h2⟩ := h.ex
  exact ⟨h.lo, p, q, (m.block b (heap_lt h1) (hs b (heap_lt h1) h.lo)).trans h1, h2.mod m (fun k hk h => hs k hk h.1)⟩
theorem IsEncS.modNil {S : Nat → Prop} {w w' : World} {b : Nat} {l : List UInt8} (h : IsEncS S w b l) (m : Mod nil w w') : IsEncS S w' b l := h.mod m (fun _ _ _ h => h)
theorem IsEnc.wide {B : Nat} {w : World} {b : Nat} {l : List UInt8} (h : IsEnc B w b l) : IsEncS (fun k => B ≤ k) w b l := ⟨h.lo, h.ex⟩
theorem IsEncS.base {B : Nat} {w : World} {b : Nat} {l : List UInt8} (h : IsEncS (fun k => B ≤ k) w b l) : IsEnc B w b l := ⟨h.lo, h.ex⟩
theorem wireNewEnc (w : World) : Calls Tryz.prog 37 #[] w fun e w' => ∃ b, e = .returned (.pointer (some ⟨b, 0, none⟩)) ∧ IsEnc w.heap.size w' b [] ∧ Mod nil w w' := by
  go_enter Tryz.func37, Tryz.ntmps37
  go_wp2_with fail
  go_ret
  exact ⟨_, rfl, ⟨Nat.le_refl _, none, 0, heap_alloc_new _ _, IsVec.nil _ _ _ _⟩, (Mod.refl _ _).alloc _⟩
theorem wireMay (size : Nat) (h1 : 1 ≤ size) (h8 : size ≤ 8) (w : World) : Calls Tryz.prog 78 #[.int .i64 size] w fun e w' => e = .returned (.bool true) ∧ w = w' := by
  go_enter Tryz.func78, Tryz.ntmps78
  go_wp2_with fail
  go_ret
  exact ⟨by simp; try omega, rfl⟩
set_option maxRecDepth 100000 in
set_option maxHeartbeats 1000000 in
theorem encNumS (S : Nat → Prop) (b : Nat) (l : List UInt8) (n size : Nat) (W0 : World) (h : IsEncS S W0 b l) (hB : ∀ k, W0.heap.size ≤ k → S k) (h1 : 1 ≤ size) (h8 : size ≤ 8) (hn : n ≤ 4611686018427387904) (hfit : n < 2 ^ (8 * size)) (hl : l.length ≤ 1099511627776) :
    Calls Tryz.prog 38 #[.pointer (some ⟨b, 0, none⟩), .int .i64 n, .int .i64 size] W0 fun e w' => e = .returned (.tuple #[]) ∧ IsEncS S w' b (l ++ layC n size size) ∧ Mod S W0 w' := by
  obtain ⟨p0, q0, hb0, hv0⟩ := h.ex
  have HLO := Lib.hid h.lo
  have HB0 := Lib.hid hb0
  have HV0 := Lib.hid hv0
  have c0 := cell_of hb0 1
  simp only [List.getElem?_toArray, List.getElem?_cons_zero, List.getElem?_cons_succ] at c0
  have hdiv : (n : Int) / 2 ^ (8 * size) = 0 := by
    rw [show (n : Int) / 2 ^ (8 * size) = ((n / 2 ^ (8 * size) : Nat) : Int) by simp, Nat.div_eq_of_lt hfit]; rfl
  have hA : decide (0 ≤ (n : Int) ∧ (n : Int) ≤ 4611686018427387904) = true := decide_eq_true ⟨by omega, by omega⟩
  clear hfit hb0 hv0 h
  go_enter Tryz.func38, Tryz.ntmps38
  go_wp2_with fail
  refine (wireMay size h1 h8 _).mono ?_
  rintro e w1 ⟨rfl, rfl⟩
  go_wp2_with fail
  refine (numAmount _ _).mono ?_
  rw [hA]
  rintro e w1 ⟨rfl, rfl⟩
  by_cases hs8 : size < 8
  all_goals
    go_wp2_with fail
    clear c0 hdiv hA
    go_loopw [6] (fun v6 wr => ∃ (c : Nat) (x : Int), c ≤ size ∧ v6 = .int .i64 x ∧ Hid (x = (size : Int) - 1 - c) ∧ Hid (IsEncS S wr b (l ++ layC n size c)) ∧ Hid (Mod S W0 wr)) (fun v _ => (intOf v + 1).toNat)
    case atStart => exact ⟨0, _, by omega, rfl, Lib.hid (by omega), Lib.hid (by rw [show l ++ layC n size 0 = l from List.append_nil l]; exact ⟨HLO.out, _, _, HB0.out, HV0.out⟩), Lib.hid (Mod.refl _ _)⟩
    case round =>
      obtain ⟨c, x, hc, rfl, HX, HER, HMR⟩ := hrel
      by_cases hlt : c < size
      · obtain ⟨k, rfl⟩ : ∃ k : Nat, x = k := ⟨size - 1 - c, by have := HX.out; omega⟩
        have hk : size - 1 - c = k := by have := HX.out; omega
        have hk8 : k < 8 := by omega
        obtain ⟨p, q, hbr, hvr⟩ := HER.out.ex
        obtain ⟨N, hN⟩ : ∃ N, (l ++ layC n size c).length = N := ⟨_, rfl⟩
        have hNl : N ≤ 1099511627784 := by rw [← hN, List.length_append, layC_length]; omega
        rw [hN] at hbr hvr
        have HN := Lib.hid hN
        have HBR := Lib.hid hbr
        have HVR := Lib.hid hvr
        have c0 := cell_of hbr 0
        simp only [List.getElem?_toArray, List.getElem?_cons_zero] at c0
        have hbl := heap_lt hbr
        have ca : ∀ ob, (wr.alloc ob).cell? ⟨b, 0, none⟩ = some (.slice p N q) := fun ob => cell_kept c0 ((Mod.refl nil _).alloc ob) hbl (not_nil _)
        have hb : ((byteAt n k).toNat : Int) = (n : Int) / 2 ^ (8 * k) % 256 := by rw [byteAt_nat]; simp
        have hw : IntKind.u8.wrap ((n : Int) / 2 ^ (8 * k)) = ((byteAt n k).toNat : Int) := by rw [IntKind.wrap_u8, hb]
        have hnat : (8 * (k : Int)).toNat = 8 * k := by omega
        have hmul : IntKind.i64.wrap (8 * (k : Int)) = 8 * (k : Int) := by rw [IntKind.wrap_i64]; omega
        have hB' : ∀ k, wr.heap.size ≤ k → S k := fun k hk => hB k (by have := HMR.out.size; omega)
        have HK := Lib.hid hk
        clear hN hbr hvr hb hk
        go_upto_region 6 with (fail)
        refine region_till (fun w' => w'.cell? ⟨b, 0, none⟩ = some (.slice p N q)) 11 (by kernel_rfl) ?_
        refine till_free (i := 0) (v := ?_) rfl (by kernel_rfl) (by kernel_rfl) (by kernel_rfl) (by kernel_rfl) (fun _ _ _ h => h) (Or.inl ⟨by kernel_rfl, ?_⟩) (fun _ => c0) ?_
        rotate_left
        · intro w _; (first | (go_simp; done) | (go_simp; with_reducible rfl))
        (try simp only [Act.put]); (try simp only [List.setIfInBounds_toArray])
        refine till_free (i := 1) (v := ?_) rfl (by kernel_rfl) (by kernel_rfl) (by kernel_rfl) (by kernel_rfl) (fun _ _ _ h => h) (Or.inl ⟨by kernel_rfl, ?_⟩) (fun _ => c0) ?_
        rotate_left
        · intro w _; (first | (go_simp; done) | (go_simp; with_reducible rfl))
        (try simp only [Act.put]); (try simp only [List.setIfInBounds_toArray])
        refine till_free (i := 2) (v := ?_) rfl (by kernel_rfl) (by kernel_rfl) (by kernel_rfl) (by kernel_rfl) (fun _ _ _ h => h) (Or.inl ⟨by kernel_rfl, ?_⟩) (fun _ => c0) ?_
        rotate_left
        · intro w _; (first | (go_simp; done) | (go_simp; with_reducible rfl))
        (try simp only [Act.put]); (try simp only [List.setIfInBounds_toArray])
        refine till_free (i := 3) (v := ?_) rfl (by kernel_rfl) (by kernel_rfl) (by kernel_rfl) (by kernel_rfl) (fun _ _ _ h => h) (Or.inl ⟨by kernel_rfl, ?_⟩) (fun _ => c0) ?_
        rotate_left
        · intro w _; (first | (go_simp; done) | (go_simp; with_reducible rfl))
        (try simp only [Act.put]); (try simp only [List.setIfInBounds_toArray])
        refine till_take (i := 4) (v := ?_) rfl (by kernel_rfl) (by kernel_rfl) (by kernel_rfl) (by kernel_rfl) (by kernel_rfl) (by kernel_rfl) (fun _ _ _ h => h) (Or.inl ⟨by kernel_rfl, ?_⟩) (c0) ?_
        rotate_left
        · intro w hSw; (try dsimp only at hSw); (first | (go_simp; done) | (go_simp; with_reducible rfl))
        (try simp only [Act.put]); (try simp only [List.setIfInBounds_toArray])
        refine till_free (i := 5) (v := ?_) rfl (by kernel_rfl) (by kernel_rfl) (by kernel_rfl) (by kernel_rfl) (fun _ _ _ h => h) (Or.inl ⟨by kernel_rfl, ?_⟩) (fun _ => c0) ?_
        rotate_left
        · intro w _; (first | (go_simp; done) | (go_simp; with_reducible rfl))
        (try simp only [Act.put]); (try simp only [List.setIfInBounds_toArray])
        refine till_free (i := 6) (v := ?_) rfl (by kernel_rfl) (by kernel_rfl) (by kernel_rfl) (by kernel_rfl) (fun _ _ _ h => h) (Or.inl ⟨by kernel_rfl, ?_⟩) (fun _ => c0) ?_
        rotate_left
        · intro w _; (first | (go_simp; done) | (go_simp; with_reducible rfl))
        (try simp only [Act.put]); (try simp only [List.setIfInBounds_toArray])
        refine till_free (i := 7) (v := ?_) rfl (by kernel_rfl) (by kernel_rfl) (by kernel_rfl) (by kernel_rfl) (fun _ _ _ h => h) (Or.inl ⟨by kernel_rfl, ?_⟩) (fun _ => c0) ?_
        rotate_left
        · intro w _; (first | (go_simp; done) | (go_simp; with_reducible rfl))
        (try simp only [Act.put]); (try simp only [List.setIfInBounds_toArray])
        refine till_free (i := 8) (v := ?_) rfl (by kernel_rfl) (by kernel_rfl) (by kernel_rfl) (by kernel_rfl) (fun _ _ _ h => h) (Or.inl ⟨by kernel_rfl, ?_⟩) (fun _ => c0) ?_
        rotate_left
        · intro w _; (first | (go_simp; done) | (go_simp; with_reducible rfl))
        (try simp only [Act.put]); (try simp only [List.setIfInBounds_toArray])
        refine till_free (i := 9) (v := ?_) rfl (by kernel_rfl) (by kernel_rfl) (by kernel_rfl) (by kernel_rfl) (fun _ _ _ h => h) (Or.inl ⟨by kernel_rfl, ?_⟩) (fun _ => c0) ?_
        rotate_left
        · intro w _; (first | (go_simp; done) | (go_simp; with_reducible rfl))
        (try simp only [Act.put]); (try simp only [List.setIfInBounds_toArray])
        refine till_ready (rs := [10]) (by kernel_rfl) (by simp) ?_
        refine till_cons (i := 10) rfl (fun K hK => ?_) till_nil
        (try dsimp (config := { proj := false }) only [List.getElem_toArray, List.getElem_cons_succ, List.getElem_cons_zero])
        go_simp
        refine hK.out _ _ (fun _ => ca _) ?_
        clear hK K
        (try simp only [Act.put, List.setIfInBounds_toArray, List.set_cons_zero, List.set_cons_succ])
        have hm1 : Mod nil wr (wr.alloc (.cells #[.int .u8 (byteAt n k).toNat] 5)).drew := ((Mod.refl nil wr).alloc _).drew
        have hx1 : IsRow (· = wr.heap.size) (wr.alloc (.cells #[.int .u8 (byteAt n k).toNat] 5)).drew (.slice (some ⟨wr.heap.size, 0, none⟩) 1 1) (bys [byteAt n k]) := (row_one (byteAt n k) _ rfl).modNil ((Mod.refl nil _).drew)
        refine till_ready (rs := [11]) (by kernel_rfl) (by simp) ?_
        refine till_cons (i := 11) rfl (fun K hK => ?_) till_nil
        (try dsimp (config := { proj := false }) only [List.getElem_toArray, List.getElem_cons_succ, List.getElem_cons_zero])
        obtain ⟨i0, hi0, hz0, hz1, hz2⟩ := info_parts info_u8
        refine step_append_vec (S := fun k => S k ∧ k ≠ b) rfl _ _ _ rfl 5 i0 _ 1 1 Tryz.underlying26 hi0 hz0 hz1 hz2 rfl (by omega) _ N (bys (l ++ layC n size c)) rfl (HVR.out.modNil hm1) _ 1 _ rfl hx1.cells (by simp [bys]) (bys_one _) (by unfold maxLen; omega) (by omega) ?_
        intro v7 w7 hv7 hm7
        obtain ⟨p7, q7, rfl⟩ := hv7.form
        have hb7 : w7.heap[b]? = some (.cells #[.slice p N q, .int .i64 0] 160 (0, 0)) := (hm7.block b (by have := heap_lt (hm1.keep HBR.out); omega) (fun h => h.2 rfl)).trans (hm1.keep HBR.out)
        have c7 := cell_of hb7 0
        have z7 := free_of hb7 0
        simp only [List.getElem?_toArray, List.getElem?_cons_zero] at c7
        have HV7 : Hid (IsVec (fun k => S k ∧ k ≠ b) w7 5 1 (.slice p7 (N + 1) q7) (N + 1) (bys (l ++ layC n size c) ++ bys [byteAt n k])) := Lib.hid (hv7.mono (fun j _ h => h.elim id (fun h => by have := hm1.size; exact ⟨hB' j (by omega), by omega⟩)))
        have HM7 : Hid (Mod S W0 w7) := Lib.hid ((HMR.out.thenNil hm1).trans hm7 (fun k _ h => h.1))
        have HB7 := Lib.hid hb7
        have hs7 : wr.heap.size ≤ w7.heap.size := Nat.le_trans hm1.size hm7.size
        clear hv7 hm7 hm1 hx1 hi0 hz0 hz1 hz2 hb7
        refine hK.out _ _ (fun _ => c7) ?_
        clear hK K
        (try simp only [Act.put, List.setIfInBounds_toArray, List.set_cons_zero, List.set_cons_succ])
        refine till_ready (rs := [12]) (by kernel_rfl) (by simp) ?_
        refine till_cons (i := 12) rfl (fun K hK => ?_) till_nil
        (try dsimp (config := { proj := false }) only [List.getElem_toArray, List.getElem_cons_succ, List.getElem_cons_zero])
        go_simp
        refine hK.out _ _ (fun _ => c7) ?_
        clear hK K
        (try simp only [Act.put, List.setIfInBounds_toArray, List.set_cons_zero, List.set_cons_succ])
        refine till_ready (rs := [13]) (by kernel_rfl) (by simp) ?_
        refine till_cons (i := 13) rfl (fun K hK => ?_) till_nil
        (try dsimp (config := { proj := false }) only [List.getElem_toArray, List.getElem_cons_succ, List.getElem_cons_zero])
        go_simp
        refine hK.out _ _ (fun _ => c7) ?_
        clear hK K
        (try simp only [Act.put, List.setIfInBounds_toArray, List.set_cons_zero, List.set_cons_succ])
        refine till_ready (rs := [14]) (by kernel_rfl) (by simp) ?_
        refine till_cons (i := 14) rfl (fun K hK => ?_) till_nil
        (try dsimp (config := { proj := false }) only [List.getElem_toArray, List.getElem_cons_succ, List.getElem_cons_zero])
        go_simp
        refine hK.out _ _ (fun h => (by simp at h)) ?_
        clear hK K
        (try simp only [Act.put, List.setIfInBounds_toArray, List.set_cons_zero, List.set_cons_succ])
        refine till_done (by kernel_rfl) ?_ _
        go_wp2_with fail
        refine ⟨⟨c + 1, _, by omega, rfl, Lib.hid (by have := HX.out; omega), Lib.hid ?_, Lib.hid ?_⟩, by simp [intOf] <;> omega⟩
        · have e : l ++ layC n size (c + 1) = (l ++ layC n size c) ++ [byteAt n k] := by rw [layC_succ, HK.out, List.append_assoc]
          have el : ((l ++ layC n size c) ++ [byteAt n k]).length = N + 1 := by rw [List.length_append, HN.out]; rfl
          rw [e]
          refine ⟨HLO.out, p7, q7, ?_, ?_⟩
          · rw [el]; exact heap_setCell_same HB7.out (.slice p7 (N + 1) q7) (off := 0)
          · rw [el, bys_append]
            exact HV7.out.mod (T := (· = b)) ((Mod.refl (· = b) w7).setCell _ _ (fun _ => rfl)) (fun j _ h1 h2 => h1.2 h2)
        · exact HM7.out.setCell _ _ (fun _ => HLO.out)
      · obtain rfl : c = size := by omega
        obtain rfl : x = -1 := by have := HX.out; omega
        go_wp2_with fail
        go_end0
        exact ⟨rfl, HER.out, HMR.out⟩
theorem encNum (B b : Nat) (l : List UInt8) (n size : Nat) (W0 : World) (h : IsEnc B W0 b l) (hB : B ≤ W0.heap.size) (h1 : 1 ≤ size) (h8 : size ≤ 8) (hn : n ≤ 4611686018427387904) (hfit : n < 2 ^ (8 * size)) (hl : l.length ≤ 1099511627776) :
    Calls Tryz.prog 38 #[.pointer (some ⟨b, 0, none⟩), .int .i64 n, .int .i64 size] W0 fun e w' => e = .returned (.tuple #[]) ∧ IsEnc B w' b (l ++ layC n size size) ∧ Mod (fun k => B ≤ k) W0 w' :=
  (encNumS (fun k => B ≤ k) b l n size W0 h.wide (fun k hk => by omega) h1 h8 hn hfit hl).mono fun e w' ⟨a, h, m⟩ => ⟨a, h.base, m⟩
theorem encDone (B b : Nat) (l : List UInt8) (W0 : World) (h : IsEnc B W0 b l) (hl : l.length ≤ 1099511627776) :
    Calls Tryz.prog 40 #[.pointer (some ⟨b, 0, none⟩)] W0 fun e w' => ∃ v, e = .returned (.tuple #[v, .int .i64 0]) ∧ IsVec (fun k => W0.heap.size ≤ k) w' 5 1 v l.length (bys l) ∧ Mod nil W0 w' := by
  obtain ⟨p0, q0, hb0, hv0⟩ := h.ex
  have c0 := cell_of hb0 0
  have c1 := cell_of hb0 1
  simp only [List.getElem?_toArray, List.getElem?_cons_zero, List.getElem?_cons_succ] at c0 c1
  have HV0 := Lib.hid hv0
  clear hb0 hv0 h
  go_enter Tryz.func40, Tryz.ntmps40
  go_wp2_with fail
  refine (cloneBytes _ _ l W0 HV0.out.row (by omega)).mono ?_
  rintro e w' ⟨v, rfl, hv, hm⟩
  go_wp2_with fail
  go_ret2
  exact ⟨v, rfl, hv, hm⟩
end Go.Proofs.YtdfpmlfdmhlhcaaGreat

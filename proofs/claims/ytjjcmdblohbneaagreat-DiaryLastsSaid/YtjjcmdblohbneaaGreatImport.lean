/- Package chain: Import, of any bytes. (Printed by wip/tools/gen_import.py.) -/
import Derived.Test.YtjjcmdblohbneaaGreatExport
import Derived.Test.YtjjcmdblohbneaaGreatFrameE
namespace Go.Proofs.YtjjcmdblohbneaaGreat
open Go.RowKit
/-- so many entries that bytes begin with, behind others; what is left -/
def importN : Nat → List UInt8 → List En → Option (List En × List UInt8)
  | 0, r, l => some (l, r)
  | n + 1, r, l => if r.length < 5 ∨ r.length - 5 < beN ((r.drop 1).take 4) ∨ 60000 < beN ((r.drop 1).take 4) then none else
      importN n (r.drop (5 + beN ((r.drop 1).take 4))) (l ++ [⟨(beN (r.take 1) : Nat), (r.drop 5).take (beN ((r.drop 1).take 4))⟩])
def importR (b : List UInt8) : Option (List En × List UInt8) → List En × Int
  | none => ([], 2)
  | some (l, r) => if 0 < r.length then ([], 2) else if headH l = b.take 32 then (l, 0) else ([], 17)
def importF (b : List UInt8) : List En × Int := if b.length < 34 then ([], 2) else importR b (importN (beN ((b.drop 32).take 2)) (b.drop 34) [])
/-- a cut out of a slice of bytes, empty ones too -/
theorem slice_cut0 (T : Nat → Prop) (p : Option Addr) (len cap lo hi : Nat) (b : List UInt8) (w : World) (hrow : IsRow T w (.slice p len cap) (bys b)) (h1 : lo ≤ hi) (h2 : hi ≤ len) (hcap : len ≤ cap) :
    ∃ p2, (∀ W, (Instr.slice 34 (.slice p len cap) (some (.int .i64 (lo : Int))) (some (.int .i64 (hi : Int))) none).run Tryz.prog W = .ok (.slice p2 (hi - lo) (cap - lo)) W) ∧ ∀ W, IsRow T W (.slice p len cap) (bys b) → IsRow T W (.slice p2 (hi - lo) (cap - lo)) (bys ((b.drop lo).take (hi - lo))) := by
  by_cases hlt : lo < hi
  · exact slice_cut T p len cap lo hi b w hrow hlt h2 hcap
  · obtain rfl : lo = hi := by omega
    obtain ⟨i0, hi0, hz0, hz1, hz2⟩ := info_parts info_u8
    have he : Tryz.prog.elem 34 = 5 := by simp [Program.elem, Tryz.underlying34]
    have hu : Tryz.prog.underlying 34 = some (.slice (Tryz.prog.elem 34)) := by rw [he]; exact Tryz.underlying34
    have hs : ∀ W, (sizeOf (Tryz.prog.elem 34)).run Tryz.prog W = .ok 1 W := fun W => by
      rw [he]
      simp [sizeOf, typeInfo, hi0, hz1]
    refine ⟨if cap = lo then p else p.map (·.add (lo * 1)), fun W => ?_, fun W _ => ⟨if cap = lo then p else p.map (·.add (lo * 1)), cap - lo, by simp [bys], fun i hi => by simp [bys] at hi⟩⟩
    rw [run_slice_lh W _ p len cap hu .i64 .i64 lo lo (by omega) (by omega) (by omega), hs W]
    by_cases hc : cap = lo
    · simp [sliced, hc]
    · simp [sliced, hc]
theorem decNum2 (S : Nat → Prop) (b : Nat) (l : List UInt8) (size : Nat) (w : World) (h : IsDec S w b l 0) (hS : ¬ S b) (h1 : 1 ≤ size) (h4 : size ≤ 4) (hl : size ≤ l.length) :
    Calls Tryz.prog 46 #[.pointer (some ⟨b, 0, none⟩), .int .i64 size] w fun e w' => e = .returned (.int .i64 (beN (l.take size) : Nat)) ∧ IsDec S w' b (l.drop size) 0 ∧ Mod (· = b) w w' := by
  refine (decNum S b l 0 size w h hS h1 (by omega)).mono ?_
  rw [decN_ok l size h4 hl]
  exact fun e w' h => h
theorem be2_lt (l : List UInt8) : beN (l.take 2) ≤ 65535 := by
  rcases Nat.lt_or_ge l.length 2 with h | h
  · have h1 := beN_take_lt l l.length (Nat.le_refl _)
    rw [List.take_length] at h1
    rw [List.take_of_length_le (by omega)]
    have h2 : 256 ^ l.length ≤ 256 ^ 2 := Nat.pow_le_pow_right (by omega) (by omega)
    have h3 : (256 : Nat) ^ 2 = 65536 := by decide
    omega
  · have h1 := beN_take_lt l 2 h
    have h3 : (256 : Nat) ^ 2 = 65536 := by decide
    omega
set_option maxRecDepth 100000 in
set_option maxHeartbeats 8000000 in
theorem chainImport (T : Nat → Prop) (tb len cap : Nat) (p : Option Addr) (b : List UInt8) (w : World) (ht : IsTab w tb) (hrow : IsRow T w (.slice p len cap) (bys b)) (hT : ∀ k, T k → k < w.heap.size ∧ k ≠ tb) (hcap : len ≤ cap) (hcm : cap ≤ maxLen) (hlen : len ≤ 1099511620000) :
    Calls Tryz.prog 15 #[.pointer (some ⟨tb, 0, none⟩), .slice p len cap] w fun e w' => ∃ q m c, e = .returned (.tuple #[.slice q m c, .int .i64 (importF b).2]) ∧ IsEnts (fun k => w.heap.size ≤ k) w' (.slice q m c) m (importF b).1 ∧ IsTab w' tb ∧ Mod (· = tb) w w' := by
  refine (?_ : ∀ Post : Ending → World → Prop, Hid (∀ e w', (∃ q m c, e = .returned (.tuple #[.slice q m c, .int .i64 (importF b).2]) ∧ IsEnts (fun k => w.heap.size ≤ k) w' (.slice q m c) m (importF b).1 ∧ IsTab w' tb ∧ Mod (· = tb) w w') → Post e w') → Calls Tryz.prog 15 #[.pointer (some ⟨tb, 0, none⟩), .slice p len cap] w Post) _ (Lib.hid (fun _ _ h => h))
  intro Post HPOST
  have hbl : b.length = len := by
    obtain ⟨_, _, h, _⟩ := hrow
    simp only [Value.slice.injEq, bys_length] at h
    exact h.2.1.symm
  have HBL := Lib.hid hbl
  have HROW := Lib.hid hrow
  have HT := Lib.hid ht
  have HTT := Lib.hid hT
  have htl := ht.lt
  obtain ⟨B, hB⟩ : ∃ B, w.heap.size = B := ⟨_, rfl⟩
  have HB := Lib.hid hB
  have htB : tb < B := by omega
  unfold maxLen at hcm
  have HERR : Hid (∀ er w', importF b = ([], er) → IsTab w' tb → Mod (· = tb) w w' → Post (.returned (.tuple #[.slice none 0 0, .int .i64 er])) w') := Lib.hid (fun er w' h1 h2 h3 => HPOST.out _ _ ⟨none, 0, 0, by rw [h1], by rw [h1]; exact IsEnts.nil _ _, h2, h3⟩)
  clear ht hrow hT hbl hB htl
  by_cases h34 : len < 34
  · have HE := Lib.hid (HERR.out 2 w (by unfold importF; rw [if_pos (by rw [HBL.out]; exact h34)]) HT.out (Mod.refl _ _))
    go_enter Tryz.func15, Tryz.ntmps15
    go_wp2_with fail
    exact HE.out
  · have h34' : 34 ≤ len := by omega
    clear h34
    obtain ⟨R, hR⟩ : ∃ R, importN (beN ((b.drop 32).take 2)) (b.drop 34) [] = R := ⟨_, rfl⟩
    have HF : Hid (importF b = importR b R) := Lib.hid (by unfold importF; rw [if_neg (by rw [HBL.out]; omega), hR])
    obtain ⟨p1, hsl10, hr1⟩ := slice_from T p len cap 34 b w HROW.out (by omega) hcap
    obtain ⟨p2, hsl20, hr2⟩ := slice_cut T p len cap 32 34 b w HROW.out (by omega) (by omega) hcap
    have hsl1 : ∀ W, (Instr.slice 34 (.slice p len cap) (some (.int .i64 34)) none none).run Tryz.prog W = .ok (.slice p1 (len - 34) (cap - 34)) W := fun W => hsl10 W
    have hsl2 : ∀ W, (Instr.slice 34 (.slice p len cap) (some (.int .i64 32)) (some (.int .i64 34)) none).run Tryz.prog W = .ok (.slice p2 2 (cap - 32)) W := fun W => hsl20 W
    have HR1 := Lib.hid hr1
    have HR2 := Lib.hid hr2
    obtain ⟨L1, hL1⟩ : ∃ L1, len - 34 = L1 := ⟨_, rfl⟩
    obtain ⟨C1, hC1⟩ : ∃ C1, cap - 34 = C1 := ⟨_, rfl⟩
    have hLC : L1 ≤ C1 ∧ C1 ≤ 9223372036854775807 ∧ L1 ≤ 1099511620000 := ⟨by omega, by omega, by omega⟩
    rw [hL1, hC1] at hsl1 HR1
    have HRR := Lib.hid hR
    have HL1 : Hid ((b.drop 34).length = L1) := Lib.hid (by rw [List.length_drop, HBL.out]; exact hL1)
    clear hsl10 hsl20 hr1 hr2 hR hL1 hC1
    go_enter Tryz.func15, Tryz.ntmps15
    go_wp2_with fail
    refine (chainNew tb w).mono ?_
    rintro e w1 ⟨cb, rfl, hch1, hm1⟩
    have HCH1 := Lib.hid hch1
    have HM1 := Lib.hid hm1
    have hcB : B ≤ cb := by have := hch1.own; have := HB.out; omega
    clear hch1 hm1
    go_wp2_with fail
    refine (wireNewDec T _ ((b.drop 32).take 2) w1 (HR2.out w1 (HROW.out.modNil HM1.out)) (by simp; omega)).mono ?_
    rintro e w2 ⟨db, rfl, hdb, hd2, hm2⟩
    have hd22 : ((b.drop 32).take 2).length = 2 := by rw [List.length_take, List.length_drop, HBL.out]; omega
    have HN := Lib.hid (decNum2 _ db _ 2 w2 hd2 (fun h => h.2 rfl) (by omega) (by omega) (by rw [hd22]; exact Nat.le_refl _))
    obtain ⟨n, hn⟩ : ∃ n, beN ((b.drop 32).take 2) = n := ⟨_, rfl⟩
    have hn6 : n ≤ 65535 := by rw [← hn]; exact be2_lt _
    rw [show List.take 2 ((b.drop 32).take 2) = (b.drop 32).take 2 from List.take_of_length_le (by rw [hd22]; exact Nat.le_refl _), hn] at HN
    have HRN : Hid (importN n (b.drop 34) [] = R) := Lib.hid (by rw [← hn]; exact HRR.out)
    have HM2 := Lib.hid (HM1.out.thenNil hm2)
    have HM12 := Lib.hid hm2
    have hs1 := HM1.out.size
    have hcl1 := HCH1.out.lt
    clear hd2 hm2 hd22 hn
    go_wp2_with fail
    refine HN.out.mono ?_
    rintro e w3 ⟨rfl, -, hm3⟩
    have HM3 : Hid (Mod nil w w3) := Lib.hid (HM2.out.new hm3 (fun k h => by omega))
    have HCH3 : Hid (IsChain (fun k => B ≤ k) w3 cb tb zeros32 0) := Lib.hid ((HCH1.out.mono (T := fun k => B ≤ k) (fun k hk h => by have := HB.out; omega)).modNil (HM12.out.new hm3 (fun k h => by omega)))
    clear hm3 HN HCH1
    go_wp2_with fail
    go_loopw [7, 8, 9] (fun v7 v8 v9 wr => ∃ (r m : Nat) (q : Option Addr) (c : Nat) (pr : Option Addr) (lr cr : Nat) (rs : List UInt8) (l : List En), v9 = .int .i64 r ∧ v7 = .slice q m c ∧ v8 = .slice pr lr cr ∧ m + r = n ∧ lr ≤ cr ∧ cr ≤ 9223372036854775807 ∧ lr ≤ 1099511620000 ∧ Hid (rs.length = lr) ∧ Hid (importN r rs l = R) ∧ Hid (∀ W, IsRow T W (.slice p len cap) (bys b) → IsRow T W (.slice pr lr cr) (bys rs)) ∧ Hid (IsEnts (fun k => B ≤ k ∧ k ≠ cb) wr (.slice q m c) m l) ∧ Hid (IsChain (fun k => B ≤ k ∧ ¬ (Value.slice q m c).ownBlock = some k) wr cb tb (headH l) m) ∧ Hid (IsTab wr tb) ∧ Hid (Mod (· = tb) w wr)) (fun _ _ v _ => (intOf v).toNat)
    case atStart => exact ⟨n, 0, none, 0, p1, L1, C1, _, [], rfl, rfl, rfl, by omega, hLC.1, hLC.2.1, hLC.2.2, HL1, HRN, HR1, Lib.hid (IsEnts.nil _ _), Lib.hid (HCH3.out.mono (fun k _ h => ⟨h, by simp [Value.ownBlock]⟩)), Lib.hid (HT.out.mod HM3.out (not_nil _)), Lib.hid HM3.out.ofNil⟩
    case round =>
      obtain ⟨r, m, q, c, pr, lr, cr, rs, l, rfl, rfl, rfl, hmr, hlc, hcr, hlb, HRL, HIR, HRW, HEN, HCH, HTR, HMR⟩ := hrel
      have HROWR : Hid (IsRow T wr (.slice p len cap) (bys b)) := Lib.hid (HROW.out.mod HMR.out (fun k _ h e => (HTT.out k h).2 e))
      have hBs : B ≤ wr.heap.size := by have := HMR.out.size; have := HB.out; omega
      cases r with
      | zero =>
        have HRS : Hid (importF b = importR b (some (l, rs))) := Lib.hid (by rw [HF.out, ← HIR.out]; rfl)
        by_cases hl0 : lr = 0
        · subst hl0
          obtain ⟨hsl30, hr3⟩ := slice_front T p len cap 32 b wr HROWR.out (by omega) (by omega) hcap
          have hsl3 : ∀ W, (Instr.slice 34 (.slice p len cap) none (some (.int .i64 32)) none).run Tryz.prog W = .ok (.slice p 32 cap) W := fun W => hsl30 W
          obtain ⟨ph, ch, hb0, hhd⟩ := HCH.out.ex
          have c1 := cell_of hb0 1
          simp only [List.getElem?_toArray, List.getElem?_cons_zero, List.getElem?_cons_succ] at c1
          have hcl := heap_lt hb0
          have HEQ : Hid (∀ W, Mod nil wr W → Calls Tryz.prog 42 #[.slice ph 32 ch, .slice p 32 cap] W fun e w' => e = .returned (.bool (decide (headH l = b.take 32))) ∧ W = w') := Lib.hid (fun W mm => bytesEqual _ T _ _ _ _ W (hhd.modNil mm) (hr3 W (HROWR.out.modNil mm)))
          have HK : Hid (∀ W, Mod nil wr W → (fun w' => w'.cell? ⟨cb, 1, none⟩ = some (.slice ph 32 ch)) W) := Lib.hid (fun W mm => cell_kept c1 mm hcl (not_nil _))
          clear hsl30 hr3 hb0 hhd c1
          by_cases hd : headH l = b.take 32
          · rw [decide_eq_true hd] at HEQ
            have HE : Hid (∀ k, Post (.returned (.tuple #[.slice q m c, .int .i64 0])) (wr.drewN k)) := Lib.hid (fun k => by
              have hF : importF b = (l, 0) := by rw [HRS.out]; simp only [importR]; rw [if_neg (by rw [HRL.out]; omega), if_pos hd]
              exact HPOST.out _ _ ⟨q, m, c, by rw [hF], by rw [hF]; exact (HEN.out.mono (fun k _ h => by have := HB.out; omega)).modNil ((Mod.refl nil wr).drewN k), HTR.out.mod ((Mod.refl nil wr).drewN k) (not_nil _), HMR.out.drewN k⟩)
            clear hd HEN HCH
            go_upto_region 23 with (fail)
            refine wp_region_held_drew (S := (fun w' => w'.cell? ⟨cb, 1, none⟩ = some (.slice ph 32 ch))) (by kernel_rfl) (HK.out _ (by (repeat (first | assumption | exact Mod.refl _ _ | refine Mod.drew ?_ | refine Mod.alloc ?_ _)))) (fun hHeld => ?_)
            refine wpAnyH_take (i := 0) (v := ?_) rfl (by kernel_rfl) (by kernel_rfl) (by kernel_rfl) (fun _ _ _ h => h) (Or.inl ⟨by kernel_rfl, ?_⟩) (by assumption) ?_
            rotate_left
            · intro w hSw; (try dsimp only at hSw); (first | (go_simp; done) | (go_simp; with_reducible rfl))
            (try simp only [Act.put, List.getElem_toArray, List.getElem_cons_succ, List.getElem_cons_zero, List.setIfInBounds_toArray, List.set_cons_succ, List.set_cons_zero])
            refine wpAnyH_take (i := 1) (v := ?_) rfl (by kernel_rfl) (by kernel_rfl) (by kernel_rfl) (fun _ _ _ h => h) (Or.inl ⟨by kernel_rfl, ?_⟩) (by assumption) ?_
            rotate_left
            · intro w hSw; (try dsimp only at hSw); (first | (go_simp; done) | (go_simp; with_reducible rfl))
            (try simp only [Act.put, List.getElem_toArray, List.getElem_cons_succ, List.getElem_cons_zero, List.setIfInBounds_toArray, List.set_cons_succ, List.set_cons_zero])
            refine wpAnyH_take (i := 2) (v := ?_) rfl (by kernel_rfl) (by kernel_rfl) (by kernel_rfl) (fun _ _ _ h => h) (Or.inl ⟨by kernel_rfl, ?_⟩) (by assumption) ?_
            rotate_left
            · intro w hSw; (try dsimp only at hSw); (first | (go_simp; done) | (go_simp; with_reducible rfl))
            (try simp only [Act.put, List.getElem_toArray, List.getElem_cons_succ, List.getElem_cons_zero, List.setIfInBounds_toArray, List.set_cons_succ, List.set_cons_zero])
            refine wpAnyH_take (i := 3) (v := ?_) rfl (by kernel_rfl) (by kernel_rfl) (by kernel_rfl) (fun _ _ _ h => h) (Or.inl ⟨by kernel_rfl, ?_⟩) (by assumption) ?_
            rotate_left
            · intro w hSw; (try dsimp only at hSw); (first | (go_simp; done) | (go_simp; with_reducible rfl))
            (try simp only [Act.put, List.getElem_toArray, List.getElem_cons_succ, List.getElem_cons_zero, List.setIfInBounds_toArray, List.set_cons_succ, List.set_cons_zero])
            refine wpAnyH_take (i := 4) (v := ?_) rfl (by kernel_rfl) (by kernel_rfl) (by kernel_rfl) (fun _ _ _ h => h) (Or.inl ⟨by kernel_rfl, ?_⟩) (by assumption) ?_
            rotate_left
            · intro w hSw; (try dsimp only at hSw); (first | (go_simp; done) | (go_simp; with_reducible rfl))
            (try simp only [Act.put, List.getElem_toArray, List.getElem_cons_succ, List.getElem_cons_zero, List.setIfInBounds_toArray, List.set_cons_succ, List.set_cons_zero])
            refine wpAnyH_take (i := 5) (v := ?_) rfl (by kernel_rfl) (by kernel_rfl) (by kernel_rfl) (fun _ _ _ h => h) (Or.inl ⟨by kernel_rfl, ?_⟩) (by assumption) ?_
            rotate_left
            · intro w hSw; (try dsimp only at hSw); (first | (go_simp; done) | (go_simp; with_reducible rfl))
            (try simp only [Act.put, List.getElem_toArray, List.getElem_cons_succ, List.getElem_cons_zero, List.setIfInBounds_toArray, List.set_cons_succ, List.set_cons_zero])
            refine wpAnyH_ready (rs := [6]) (by kernel_rfl) (by simp) ?_
            refine AllReadyH.cons (i := 6) rfl (fun K hK => ?_) AllReadyH.nil
            (try dsimp (config := { proj := false }) only [List.getElem_toArray, List.getElem_cons_succ, List.getElem_cons_zero])
            go_simp
            refine (HEQ.out _ ?_).mono ?_
            · (repeat (first | assumption | exact Mod.refl _ _ | refine Mod.drew ?_ | refine Mod.alloc ?_ _))
            rintro e w' ⟨rfl, rfl⟩
            refine hK.out _ _ (HK.out _ (by (repeat (first | assumption | exact Mod.refl _ _ | refine Mod.drew ?_ | refine Mod.alloc ?_ _)))) (fun hHeld => ?_)
            clear hK K
            (try simp only [Act.put, List.setIfInBounds_toArray, List.set_cons_zero, List.set_cons_succ])
            (try simp only [List.set_cons_succ, List.set_cons_zero])
            refine wpAnyH_take (i := 7) (v := ?_) rfl (by kernel_rfl) (by kernel_rfl) (by kernel_rfl) (fun _ _ _ h => h) (Or.inl ⟨by kernel_rfl, ?_⟩) (by assumption) ?_
            rotate_left
            · intro w hSw; (try dsimp only at hSw); (first | (go_simp; done) | (go_simp; with_reducible rfl))
            (try simp only [Act.put, List.getElem_toArray, List.getElem_cons_succ, List.getElem_cons_zero, List.setIfInBounds_toArray, List.set_cons_succ, List.set_cons_zero])
            refine wpAnyH_take (i := 8) (v := ?_) rfl (by kernel_rfl) (by kernel_rfl) (by kernel_rfl) (fun _ _ _ h => h) (Or.inl ⟨by kernel_rfl, ?_⟩) (by assumption) ?_
            rotate_left
            · intro w hSw; (try dsimp only at hSw); (first | (go_simp; done) | (go_simp; with_reducible rfl))
            (try simp only [Act.put, List.getElem_toArray, List.getElem_cons_succ, List.getElem_cons_zero, List.setIfInBounds_toArray, List.set_cons_succ, List.set_cons_zero])
            refine wpAnyH_done (by kernel_rfl) ?_ _
            go_wp2_with fail
            exact HE.out 1
          · rw [decide_eq_false hd] at HEQ
            have HE : Hid (∀ k, Post (.returned (.tuple #[.slice none 0 0, .int .i64 17])) (wr.drewN k)) := Lib.hid (fun k => HERR.out 17 _ (by rw [HRS.out]; simp only [importR]; rw [if_neg (by rw [HRL.out]; omega), if_neg hd]) (HTR.out.mod ((Mod.refl nil wr).drewN k) (not_nil _)) (HMR.out.drewN k))
            clear hd HEN HCH
            go_upto_region 23 with (fail)
            refine wp_region_held_drew (S := (fun w' => w'.cell? ⟨cb, 1, none⟩ = some (.slice ph 32 ch))) (by kernel_rfl) (HK.out _ (by (repeat (first | assumption | exact Mod.refl _ _ | refine Mod.drew ?_ | refine Mod.alloc ?_ _)))) (fun hHeld => ?_)
            refine wpAnyH_take (i := 0) (v := ?_) rfl (by kernel_rfl) (by kernel_rfl) (by kernel_rfl) (fun _ _ _ h => h) (Or.inl ⟨by kernel_rfl, ?_⟩) (by assumption) ?_
            rotate_left
            · intro w hSw; (try dsimp only at hSw); (first | (go_simp; done) | (go_simp; with_reducible rfl))
            (try simp only [Act.put, List.getElem_toArray, List.getElem_cons_succ, List.getElem_cons_zero, List.setIfInBounds_toArray, List.set_cons_succ, List.set_cons_zero])
            refine wpAnyH_take (i := 1) (v := ?_) rfl (by kernel_rfl) (by kernel_rfl) (by kernel_rfl) (fun _ _ _ h => h) (Or.inl ⟨by kernel_rfl, ?_⟩) (by assumption) ?_
            rotate_left
            · intro w hSw; (try dsimp only at hSw); (first | (go_simp; done) | (go_simp; with_reducible rfl))
            (try simp only [Act.put, List.getElem_toArray, List.getElem_cons_succ, List.getElem_cons_zero, List.setIfInBounds_toArray, List.set_cons_succ, List.set_cons_zero])
            refine wpAnyH_take (i := 2) (v := ?_) rfl (by kernel_rfl) (by kernel_rfl) (by kernel_rfl) (fun _ _ _ h => h) (Or.inl ⟨by kernel_rfl, ?_⟩) (by assumption) ?_
            rotate_left
            · intro w hSw; (try dsimp only at hSw); (first | (go_simp; done) | (go_simp; with_reducible rfl))
            (try simp only [Act.put, List.getElem_toArray, List.getElem_cons_succ, List.getElem_cons_zero, List.setIfInBounds_toArray, List.set_cons_succ, List.set_cons_zero])
            refine wpAnyH_take (i := 3) (v := ?_) rfl (by kernel_rfl) (by kernel_rfl) (by kernel_rfl) (fun _ _ _ h => h) (Or.inl ⟨by kernel_rfl, ?_⟩) (by assumption) ?_
            rotate_left
            · intro w hSw; (try dsimp only at hSw); (first | (go_simp; done) | (go_simp; with_reducible rfl))
            (try simp only [Act.put, List.getElem_toArray, List.getElem_cons_succ, List.getElem_cons_zero, List.setIfInBounds_toArray, List.set_cons_succ, List.set_cons_zero])
            refine wpAnyH_take (i := 4) (v := ?_) rfl (by kernel_rfl) (by kernel_rfl) (by kernel_rfl) (fun _ _ _ h => h) (Or.inl ⟨by kernel_rfl, ?_⟩) (by assumption) ?_
            rotate_left
            · intro w hSw; (try dsimp only at hSw); (first | (go_simp; done) | (go_simp; with_reducible rfl))
            (try simp only [Act.put, List.getElem_toArray, List.getElem_cons_succ, List.getElem_cons_zero, List.setIfInBounds_toArray, List.set_cons_succ, List.set_cons_zero])
            refine wpAnyH_take (i := 5) (v := ?_) rfl (by kernel_rfl) (by kernel_rfl) (by kernel_rfl) (fun _ _ _ h => h) (Or.inl ⟨by kernel_rfl, ?_⟩) (by assumption) ?_
            rotate_left
            · intro w hSw; (try dsimp only at hSw); (first | (go_simp; done) | (go_simp; with_reducible rfl))
            (try simp only [Act.put, List.getElem_toArray, List.getElem_cons_succ, List.getElem_cons_zero, List.setIfInBounds_toArray, List.set_cons_succ, List.set_cons_zero])
            refine wpAnyH_ready (rs := [6]) (by kernel_rfl) (by simp) ?_
            refine AllReadyH.cons (i := 6) rfl (fun K hK => ?_) AllReadyH.nil
            (try dsimp (config := { proj := false }) only [List.getElem_toArray, List.getElem_cons_succ, List.getElem_cons_zero])
            go_simp
            refine (HEQ.out _ ?_).mono ?_
            · (repeat (first | assumption | exact Mod.refl _ _ | refine Mod.drew ?_ | refine Mod.alloc ?_ _))
            rintro e w' ⟨rfl, rfl⟩
            refine hK.out _ _ (HK.out _ (by (repeat (first | assumption | exact Mod.refl _ _ | refine Mod.drew ?_ | refine Mod.alloc ?_ _)))) (fun hHeld => ?_)
            clear hK K
            (try simp only [Act.put, List.setIfInBounds_toArray, List.set_cons_zero, List.set_cons_succ])
            (try simp only [List.set_cons_succ, List.set_cons_zero])
            refine wpAnyH_take (i := 7) (v := ?_) rfl (by kernel_rfl) (by kernel_rfl) (by kernel_rfl) (fun _ _ _ h => h) (Or.inl ⟨by kernel_rfl, ?_⟩) (by assumption) ?_
            rotate_left
            · intro w hSw; (try dsimp only at hSw); (first | (go_simp; done) | (go_simp; with_reducible rfl))
            (try simp only [Act.put, List.getElem_toArray, List.getElem_cons_succ, List.getElem_cons_zero, List.setIfInBounds_toArray, List.set_cons_succ, List.set_cons_zero])
            refine wpAnyH_take (i := 8) (v := ?_) rfl (by kernel_rfl) (by kernel_rfl) (by kernel_rfl) (fun _ _ _ h => h) (Or.inl ⟨by kernel_rfl, ?_⟩) (by assumption) ?_
            rotate_left
            · intro w hSw; (try dsimp only at hSw); (first | (go_simp; done) | (go_simp; with_reducible rfl))
            (try simp only [Act.put, List.getElem_toArray, List.getElem_cons_succ, List.getElem_cons_zero, List.setIfInBounds_toArray, List.set_cons_succ, List.set_cons_zero])
            refine wpAnyH_done (by kernel_rfl) ?_ _
            go_wp2_with fail
            exact HE.out 1
        · have hl0' : 0 < lr := by omega
          have HE := Lib.hid (HERR.out 2 wr (by rw [HRS.out]; simp only [importR]; rw [if_pos (by rw [HRL.out]; exact hl0')]) HTR.out HMR.out)
          clear HEN HCH hl0
          go_wp2_with fail
          exact HE.out
      | succ r =>
        have hrpos : (((r + 1 : Nat) : Int)) = (r : Int) + 1 := by omega
        by_cases hl5 : lr < 5
        · have HE := Lib.hid (HERR.out 2 wr (by rw [HF.out, ← HIR.out, importN, if_pos (.inl (by rw [HRL.out]; exact hl5))]; rfl) HTR.out HMR.out)
          clear HEN HCH
          go_wp2_with fail
          exact HE.out
        · have hl5' : 5 ≤ lr := by omega
          clear hl5
          obtain ⟨hsl50, hr50⟩ := slice_front T pr lr cr 5 rs wr (HRW.out wr HROWR.out) (by omega) hl5' hlc
          have hsl5 : ∀ W, (Instr.slice 34 (.slice pr lr cr) none (some (.int .i64 5)) none).run Tryz.prog W = .ok (.slice pr 5 cr) W := fun W => hsl50 W
          have h55 : (rs.take 5).length = 5 := by rw [List.length_take, HRL.out]; omega
          have HD0 := Lib.hid (wireNewDec T _ (rs.take 5) wr (hr50 wr (HRW.out wr HROWR.out)) (by rw [h55]; omega))
          have H55 := Lib.hid h55
          clear hsl50 hr50 h55
          go_wp2_with fail
          refine HD0.out.mono ?_
          rintro e wa ⟨dd, rfl, hdd, hda, hma⟩
          have HN1 := Lib.hid (decNum2 _ dd _ 1 wa hda (fun h => h.2 rfl) (by omega) (by omega) (by rw [H55.out]; omega))
          have hk1 : List.take 1 (rs.take 5) = rs.take 1 := by rw [List.take_take]; rfl
          obtain ⟨kk, hkk⟩ : ∃ kk, beN (rs.take 1) = kk := ⟨_, rfl⟩
          have hkb : kk ≤ 255 := by rw [← hkk]; exact be1_lt _
          rw [hk1, hkk] at HN1
          have HKK := Lib.hid hkk
          have HMA := Lib.hid hma
          have hsa := hma.size
          clear hda hma hk1 hkk HD0
          go_wp2_with fail
          refine HN1.out.mono ?_
          rintro e wb ⟨rfl, hdb2, hmb⟩
          have HDB := Lib.hid hdb2
          have HMB : Hid (Mod nil wr wb) := Lib.hid (HMA.out.new hmb (fun k h => by omega))
          have hsb := hmb.size
          obtain ⟨X, hX⟩ : ∃ X, wb.heap.size = X := ⟨_, rfl⟩
          have HX := Lib.hid hX
          have hddX : dd < X := by have := HDB.out.lt; omega
          clear hdb2 hmb hX HN1
          go_wp2_with fail
          (try rw [HX.out])
          generalize hwc : World.alloc wb _ = wc
          have hxc : wc.heap[X]? = some (.cells #[.int .i64 (kk : Nat), .slice none 0 0] 36 (0, 0)) := by rw [← hwc, ← HX.out]; exact heap_alloc_new _ _
          have hmc : Mod nil wb wc := by rw [← hwc]; exact (Mod.refl _ _).alloc _
          have HN2 := Lib.hid (decNum2 _ dd _ 4 wc (HDB.out.mod hmc (not_nil _) (fun _ _ _ h => h)) (fun h => h.2 rfl) (by omega) (by omega) (by rw [List.length_drop, H55.out]; exact Nat.le_refl _))
          have hk2 : List.take 4 (List.drop 1 (rs.take 5)) = (rs.drop 1).take 4 := by rw [List.drop_take]; rw [List.take_take]; rfl
          obtain ⟨sz, hsz⟩ : ∃ sz, beN ((rs.drop 1).take 4) = sz := ⟨_, rfl⟩
          have hszb : sz ≤ 4294967295 := by rw [← hsz]; exact be4_lt _
          rw [hk2, hsz] at HN2
          have HSZ := Lib.hid hsz
          have HXC := Lib.hid hxc
          have HMC := Lib.hid (HMB.out.thenNil hmc)
          clear hwc hxc hmc hk2 hsz
          refine HN2.out.mono ?_
          rintro e wd ⟨rfl, -, hmd⟩
          have HXD : Hid (wd.heap[X]? = _) := Lib.hid ((hmd.block X (heap_lt HXC.out) (by omega)).trans HXC.out)
          have HMD : Hid (Mod nil wr wd) := Lib.hid (HMC.out.new hmd (fun k h => by omega))
          have hsd := HMD.out.size
          have hXr : wr.heap.size ≤ X := by omega
          have hsub : IntKind.i64.wrap ((lr : Int) - 5) = (lr : Int) - 5 := by rw [IntKind.wrap_i64]; omega
          clear hmd HN2 hsa hsb
          by_cases hbig : lr - 5 < sz ∨ 60000 < sz
          · have HE : Hid (Post (.returned (.tuple #[.slice none 0 0, .int .i64 2])) wd) := Lib.hid (HERR.out 2 wd (by rw [HF.out, ← HIR.out, importN, if_pos (by rw [HRL.out, HSZ.out]; exact .inr hbig)]; rfl) (HTR.out.mod HMD.out (not_nil _)) (HMR.out.thenNil HMD.out))
            rcases (show (lr : Int) - 5 < sz ∨ (((sz : Int) ≤ (lr : Int) - 5) ∧ 60000 < (sz : Int)) by omega) with hb1 | ⟨hb1, hb2⟩
            all_goals
              clear hbig HEN HCH
              go_wp2_with fail
              exact HE.out
          · have hb1 : (sz : Int) ≤ (lr : Int) - 5 := by omega
            have hb2 : sz ≤ 60000 := by omega
            have hb3 : 5 + sz ≤ lr := by omega
            have HGO : Hid (importN r (rs.drop (5 + sz)) (l ++ [⟨(kk : Nat), (rs.drop 5).take sz⟩]) = R) := Lib.hid (by rw [← HIR.out, importN, HRL.out, HSZ.out, HKK.out, if_neg (by omega)])
            obtain ⟨p3, hslc0, hr3⟩ := slice_cut0 T pr lr cr 5 (5 + sz) rs wr (HRW.out wr HROWR.out) (by omega) hb3 hlc
            obtain ⟨p5, hslf0, hr5⟩ := slice_from T pr lr cr (5 + sz) rs wr (HRW.out wr HROWR.out) hb3 hlc
            have e5 : ((5 + sz : Nat) : Int) = 5 + (sz : Int) := by omega
            rw [e5] at hslc0 hslf0
            rw [show 5 + sz - 5 = sz by omega] at hslc0 hr3
            have hslc : ∀ W, (Instr.slice 34 (.slice pr lr cr) (some (.int .i64 5)) (some (.int .i64 (5 + (sz : Int)))) none).run Tryz.prog W = .ok (.slice p3 sz (cr - 5)) W := fun W => hslc0 W
            have hslf : ∀ W, (Instr.slice 34 (.slice pr lr cr) (some (.int .i64 (5 + (sz : Int)))) none none).run Tryz.prog W = .ok (.slice p5 (lr - (5 + sz)) (cr - (5 + sz))) W := hslf0
            obtain ⟨bx, hbx⟩ : ∃ bx, (rs.drop 5).take sz = bx := ⟨_, rfl⟩
            have hbxl : bx.length = sz := by rw [← hbx, List.length_take, List.length_drop, HRL.out]; omega
            rw [hbx] at hr3 HGO
            have HBXL := Lib.hid hbxl
            have HRWN : Hid (∀ W, IsRow T W (.slice p len cap) (bys b) → IsRow T W (.slice p5 (lr - (5 + sz)) (cr - (5 + sz))) (bys (rs.drop (5 + sz)))) := Lib.hid (fun W h => hr5 W (HRW.out W h))
            have HRLN : Hid ((rs.drop (5 + sz)).length = lr - (5 + sz)) := Lib.hid (by rw [List.length_drop, HRL.out])
            have HCL := Lib.hid (bytesClone T _ bx wd (hr3 wd (HRW.out wd (HROWR.out.modNil HMD.out))) (by rw [hbxl]; omega))
            rw [hbxl] at HCL
            clear hslc0 hslf0 hr3 hr5 hbx hbxl hbig
            go_wp2_with fail
            refine HCL.out.mono ?_
            rintro e we ⟨v4, rfl, hv4, hme⟩
            obtain ⟨p4, c4, rfl⟩ := hv4.form
            have hxe := hme.keep HXD.out
            have y1 := cell_of hxe 1
            have z1 := free_of hxe 1
            simp only [List.getElem?_toArray, List.getElem?_cons_zero, List.getElem?_cons_succ] at y1
            have HXE := Lib.hid hxe
            have HV4 := Lib.hid hv4
            have HME := Lib.hid hme
            have hse := hme.size
            clear hxe hv4 hme HCL
            go_upto_region 17 with (fail)
            have g1 := heap_setCell_same HXE.out (.slice p4 sz c4) (off := 1)
            simp only [List.setIfInBounds_toArray, List.set_cons_succ, List.set_cons_zero] at g1
            have hmf : Mod (· = X) we (we.setCell ⟨X, 1, none⟩ (.slice p4 sz c4)) := (Mod.refl _ _).setCell _ _ (fun _ => rfl)
            generalize World.setCell we _ _ = wf at g1 hmf ⊢
            have HXF := Lib.hid g1
            have x0 := cell_of g1 0
            have x1 := cell_of g1 1
            simp only [List.getElem?_toArray, List.getElem?_cons_zero, List.getElem?_cons_succ] at x0 x1
            have HMF : Hid (Mod nil wr wf) := Lib.hid ((HMD.out.thenNil HME.out).new hmf (fun k h => by omega))
            have HRX : Hid (IsRow (fun k => wd.heap.size ≤ k) wf (.slice p4 sz c4) (bys bx)) := Lib.hid (HV4.out.row.mod hmf (fun k _ h e => by have := heap_lt HXD.out; have h' : wd.heap.size ≤ k := h; omega))
            have hsf := hmf.size
            have HADD := Lib.hid (chainAdd _ _ cb tb m kk sz c4 (headH l) bx p4 wf (HCH.out.modNil HMF.out) (HTR.out.mod HMF.out (not_nil _)) HRX.out (fun h => by have := h.1; omega) hkb hb2 (by omega))
            clear g1 hmf y1 z1
            go_wp2_with fail
            refine HADD.out.mono ?_
            rintro e wg ⟨rfl, htg, hchg, hmg⟩
            have hcl := HCH.out.lt
            have hxg := (hmg.block X (heap_lt HXF.out) (by omega)).trans HXF.out
            have u0 := cell_of hxg 0
            have u1 := cell_of hxg 1
            simp only [List.getElem?_toArray, List.getElem?_cons_zero, List.getElem?_cons_succ] at u0 u1
            have HMG : Hid (Mod (fun j => j = cb ∨ j = tb) wr wg) := Lib.hid (HMF.out.ofNil.trans hmg (fun _ _ h => h))
            have HENG : Hid (IsEnts (fun k => B ≤ k ∧ k ≠ cb) wg (.slice q m c) m l) := Lib.hid (HEN.out.mod HMG.out (fun k _ h e => by omega))
            have HRXG : Hid (IsRow (fun k => wd.heap.size ≤ k) wg (.slice p4 sz c4) (bys bx)) := Lib.hid (HRX.out.mod hmg (fun k _ h e => by have := heap_lt HXD.out; have h' : wd.heap.size ≤ k := h; omega))
            obtain ⟨v8, wh, hrun8, hv8, hm8, ho8⟩ := ents_append (e := ⟨(kk : Nat), bx⟩) (R := fun k => wd.heap.size ≤ k) 33 (HENG.out.mono (T := fun k => (B ≤ k ∧ k ≠ cb)) (fun _ _ h => h)) HRXG.out (fun k hk => ⟨⟨by have h' : wd.heap.size ≤ k := hk; omega, by have h' : wd.heap.size ≤ k := hk; omega⟩, fun ho => by have := (HEN.out.own ho).2; have h' : wd.heap.size ≤ k := hk; omega⟩) rfl (by omega)
            obtain ⟨p8, c8, rfl⟩ := hv8.form
            have hsg := HMG.out.size
            have HENN : Hid (IsEnts (fun k => B ≤ k ∧ k ≠ cb) wh (.slice p8 (m + 1) c8) (m + 1) (l ++ [⟨(kk : Nat), bx⟩])) := Lib.hid (hv8.mono (fun k _ h => h.elim id (fun h => by omega)))
            have HRUN := Lib.hid hrun8
            have HOL : Hid (∀ k, (Value.slice q m c).ownBlock = some k → B ≤ k ∧ k ≠ cb ∧ k < wr.heap.size) := Lib.hid (fun k h => ⟨(HEN.out.own h).1.1, (HEN.out.own h).1.2, (HEN.out.own h).2⟩)
            have HCHN : Hid (IsChain (fun k => B ≤ k ∧ ¬ (Value.slice p8 (m + 1) c8).ownBlock = some k) wh cb tb (headH (l ++ [⟨(kk : Nat), bx⟩])) (m + 1)) := Lib.hid (by
              rw [headH_snoc]
              have h1 := hchg.mono (T := fun k => (B ≤ k ∧ ¬ (Value.slice q m c).ownBlock = some k) ∧ k < wg.heap.size) (fun k hk h => by
                rcases h with h | h
                · exact ⟨h, hk⟩
                · exact ⟨⟨by omega, fun ho => by have := HOL.out k ho; omega⟩, hk⟩)
              have h2 := h1.mod hm8 (fun k _ h ho => h.1.2 ho)
              exact h2.mono (fun k _ h => ⟨h.1.1, fun ho => (ho8 k ho).elim h.1.2 (fun x => by have := h.2; omega)⟩))
            have HTN : Hid (IsTab wh tb) := Lib.hid (htg.mod hm8 (fun h => by have := HOL.out tb h; omega))
            have HMN : Hid (Mod (· = tb) w wh) := Lib.hid (HMR.out.trans ((HMG.out.mono (T := fun j => (j = cb ∨ j = tb) ∨ (Value.slice q m c).ownBlock = some j) (fun _ _ h => .inl h)).trans hm8 (fun _ _ h => .inr h)) (fun k hk h => by
              rcases h with (h | h) | h
              · have := HB.out; omega
              · exact h
              · have := HOL.out k h; have := HB.out; omega))
            clear htg hchg hmg hxg hrun8 hv8 hm8 ho8 x0 x1 HADD
            go_wp2_with (first | (at_builtin; refine wpList_append_run rfl _ _ _ _ rfl rfl rfl HRUN.out ?_))
            exact ⟨⟨r, m + 1, p8, c8, p5, lr - (5 + sz), cr - (5 + sz), rs.drop (5 + sz), _, by go_num, rfl, rfl, by omega, by omega, by omega, by omega, HRLN, HGO, HRWN, HENN, HCHN, HTN, HMN⟩, by simp [intOf]⟩
end Go.Proofs.YtjjcmdblohbneaaGreat

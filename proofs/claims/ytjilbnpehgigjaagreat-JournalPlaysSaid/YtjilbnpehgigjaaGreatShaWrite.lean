/- Package sha: Write. -/
import Derived.Test.YtjilbnpehgigjaaGreatWire
namespace Go.Proofs.YtjilbnpehgigjaaGreat
open Go.RowKit

theorem vec_form1 {S : Nat → Prop} {w : World} {E : TypeId} {sz n : Nat} {v : Value} {xs : List Value} (h : IsVec S w E sz v n xs) : (v = .slice none 0 0 ∧ n = 0) ∨ ∃ g c, v = .slice (some ⟨g, 0, none⟩) n c ∧ n ≤ c := by
  rcases h.1.2 with ⟨rfl, rfl⟩ | ⟨g, cap, cur, rfl, _, _, hn, _⟩
  · exact .inl ⟨rfl, rfl⟩
  · exact .inr ⟨g, cap, rfl, hn⟩
/-- k blocks are taken -/
def mixK (A : List UInt8) (v : V8) : Nat → V8
  | 0 => v
  | k + 1 => mixV ((A.drop (64 * k)).take 64) (mixK A v k)
theorem hash_t (tb : Nat) (v : V8) (rest : Value) (n : Int) : (hashOf tb v.list rest n)[0]? = some (.pointer (some ⟨tb, 0, none⟩)) := rfl
theorem hash_rest (tb : Nat) (v : V8) (rest : Value) (n : Int) : (hashOf tb v.list rest n)[9]? = some rest := rfl
theorem hash_n (tb : Nat) (v : V8) (rest : Value) (n : Int) : (hashOf tb v.list rest n)[10]? = some (.int .u64 n) := rfl
theorem hash_set_rest (tb : Nat) (v : V8) (rest r : Value) (n : Int) : (hashOf tb v.list rest n).setIfInBounds 9 r = hashOf tb v.list r n := rfl
theorem hash_set_n (tb : Nat) (v : V8) (rest : Value) (n m : Int) : (hashOf tb v.list rest n).setIfInBounds 10 (.int .u64 m) = hashOf tb v.list rest m := rfl
theorem hash_arr8 (tb : Nat) (v r : V8) (rest : Value) (n : Int) : arr8 (hashOf tb v.list rest n) 1 r 8 = hashOf tb r.list rest n := by
  simp [arr8, hashOf, V8.list, wc, List.getD]
def restLen (w : World) (b : Nat) : Nat := match w.cell? ⟨b, 9, none⟩ with | some (.slice _ n _) => n | _ => 0
/-- what is left in a Hash behind k blocks -/
structure Left (w : World) (b tb : Nat) (v : V8) (n g : Nat) (A : List UInt8) (k : Nat) (p : Option Addr) (N C : Nat) : Prop where
  hash : IsHash w b tb (mixK A v k) (.slice p N C) n
  len : N + 64 * k = A.length
  cap : N ≤ C
  ptr : 0 < N → p = some ⟨g, 64 * k, none⟩
  cells : ∀ i, i < A.length → w.cell? ⟨g, i, none⟩ = some (.int .u8 (A.getD i 0).toNat)
theorem Left.restLen {w : World} {b tb : Nat} {v : V8} {n g : Nat} {A : List UInt8} {k : Nat} {p : Option Addr} {N C : Nat} (h : Left w b tb v n g A k p N C) : restLen w b = N := by
  unfold Go.Proofs.YtjilbnpehgigjaaGreat.restLen
  rw [(cell_of h.hash 9).trans (hash_rest _ _ _ _)]
theorem drop_getD (A : List UInt8) (k i : Nat) (hi : i < 64) : ((A.drop k).take 64).getD i 0 = A.getD (k + i) 0 := by
  simp [List.getD_eq_getElem?_getD, List.getElem?_take, List.getElem?_drop, hi]
set_option maxRecDepth 100000 in
set_option maxHeartbeats 2000000 in
theorem shaWrite (b tb : Nat) (v : V8) (S T : Nat → Prop) (rv vb : Value) (l m : List UInt8) (n : Nat) (w : World) (hh : IsHash w b tb v rv n) (hvec : IsVec S w 5 1 rv l.length (bys l)) (hSb : ¬ S b) (hSt : ¬ S tb) (hne : tb ≠ b) (ht : IsTab w tb)
    (hrow : IsRow T w vb (bys m)) (hTb : ¬ T b) (hl : l.length + m.length ≤ 1099511627776) (hn : n ≤ 1099511627776) :
    Calls Tryz.prog 80 #[.pointer (some ⟨b, 0, none⟩), vb] w fun e w' => e = .returned (.tuple #[]) ∧ (∃ rv', IsHash w' b tb (mixK (l ++ m) v ((l ++ m).length / 64)) rv' (n + m.length : Nat) ∧ IsVec (fun k => w.heap.size ≤ k) w' 5 1 rv' ((l ++ m).drop (64 * ((l ++ m).length / 64))).length (bys ((l ++ m).drop (64 * ((l ++ m).length / 64))))) ∧ IsTab w' tb ∧ Mod (fun k => k = tb ∨ k = b ∨ S k) w w' := by
  refine (?_ : ∀ Post : Ending → World → Prop, Hid (∀ e w', (e = .returned (.tuple #[]) ∧ (∃ rv', IsHash w' b tb (mixK (l ++ m) v ((l ++ m).length / 64)) rv' (n + m.length : Nat) ∧ IsVec (fun k => w.heap.size ≤ k) w' 5 1 rv' ((l ++ m).drop (64 * ((l ++ m).length / 64))).length (bys ((l ++ m).drop (64 * ((l ++ m).length / 64))))) ∧ IsTab w' tb ∧ Mod (fun k => k = tb ∨ k = b ∨ S k) w w') → Post e w') → Calls Tryz.prog 80 #[.pointer (some ⟨b, 0, none⟩), vb] w Post) _ (Lib.hid (fun _ _ h => h))
  intro Post HPOST
  obtain ⟨pm, cm, rfl, _⟩ := id hrow
  rw [bys_length] at hrow ⊢
  obtain ⟨M, hM⟩ : ∃ M, m.length = M := ⟨_, rfl⟩
  obtain ⟨q, hq⟩ : ∃ q, n + M = q := ⟨_, rfl⟩
  rw [hM] at hl hrow ⊢
  have hh1 : IsHash (w.setCell ⟨b, 10, none⟩ (.int .u64 q)) b tb v rv q := by
    unfold IsHash at hh ⊢
    rw [heap_setCell_same hh, hash_set_n]
  have m1 : Mod (· = b) w (w.setCell ⟨b, 10, none⟩ (.int .u64 q)) := (Mod.refl _ w).setCell _ _ (fun _ => rfl)
  have c10 := (cell_of hh 10).trans (hash_n _ _ _ _)
  have f10 := free_of hh 10
  have c9 := (cell_of hh1 9).trans (hash_rest _ _ _ _)
  have hvec1 := hvec.mod m1 (fun k _ hk e => hSb (e ▸ hk))
  have hrow1 := hrow.mod m1 (fun k _ hk e => hTb (e ▸ hk))
  obtain ⟨v7, w7, hrun, hvec7, hmod7⟩ := bytes_append (l := l) (m := m) 22 hvec1 hrow1 (by omega)
  obtain ⟨A, hA⟩ : ∃ A, l ++ m = A := ⟨_, rfl⟩
  obtain ⟨N, hN⟩ : ∃ N, A.length = N := ⟨_, rfl⟩
  have hNl : N ≤ 1099511627776 := by rw [← hN, ← hA, List.length_append, hM]; exact hl
  rw [hA] at hvec7
  have h7 : IsHash w7 b tb v rv q := (hmod7.block b (heap_lt hh1) hSb).trans hh1
  have hh8 : IsHash (w7.setCell ⟨b, 9, none⟩ v7) b tb v v7 q := by
    unfold IsHash at h7 ⊢
    rw [heap_setCell_same h7, hash_set_rest]
  have d9 := (cell_of h7 9).trans (hash_rest _ _ _ _)
  have e9 := free_of h7 9
  have m8 : Mod (fun k => k = tb ∨ k = b ∨ S k) w (w7.setCell ⟨b, 9, none⟩ v7) := ((m1.mono (fun _ _ h => .inr (.inl h))).trans hmod7 (fun _ _ h => .inr (.inr h))).setCell _ _ (fun _ => .inr (.inl rfl))
  have ht8 : IsTab (w7.setCell ⟨b, 9, none⟩ v7) tb := by
    have h1 := (ht.mod m1 hne).mod hmod7 hSt
    exact h1.mod ((Mod.refl (· = b) w7).setCell ⟨b, 9, none⟩ v7 (fun _ => rfl)) hne
  have hrow8 : IsVec (fun k => S k ∨ (w.setCell ⟨b, 10, none⟩ (.int .u64 q)).heap.size ≤ k) (w7.setCell ⟨b, 9, none⟩ v7) 5 1 v7 A.length (bys A) := hvec7.mod ((Mod.refl (· = b) w7).setCell ⟨b, 9, none⟩ v7 (fun _ => rfl)) (fun k _ hk e => hk.elim (fun h => hSb (e ▸ h)) (fun h => by have := heap_lt hh1; omega))
  rw [hN] at hrow8
  have hsz : b < w.heap.size := heap_lt hh
  have htz : tb < w.heap.size := ht.lt
  obtain ⟨g, hgb, hgt, p0, C0, rfl, hl0⟩ : ∃ g, g ≠ b ∧ g ≠ tb ∧ ∃ p0 C0, v7 = .slice p0 N C0 ∧ Left (w7.setCell ⟨b, 9, none⟩ v7) b tb v q g A 0 p0 N C0 := by
    rcases vec_form1 hrow8 with ⟨rfl, h0⟩ | ⟨g, c, rfl, hc⟩
    · subst h0
      exact ⟨b + tb + 1, by omega, by omega, none, 0, rfl, ⟨hh8, by omega, by omega, fun h => by omega, fun i hi => by omega⟩⟩
    · have hg := hrow8.2 g rfl
      have hsz0 : (w.setCell ⟨b, 10, none⟩ (.int .u64 q)).heap.size = w.heap.size := size_setCell _ _ _
      refine ⟨g, fun e => ?_, fun e => ?_, some ⟨g, 0, none⟩, c, rfl, ⟨hh8, by omega, hc, fun _ => rfl, fun i hi => ?_⟩⟩
      · exact hg.elim (fun h => hSb (e ▸ h)) (fun h => by omega)
      · exact hg.elim (fun h => hSt (e ▸ h)) (fun h => by omega)
      · obtain ⟨p', c', hp, hcc⟩ := hrow8.cells
        obtain ⟨b', o', hp', _, _, hx⟩ := hcc i (by rw [bys_length]; exact hi)
        simp only [Value.slice.injEq] at hp
        obtain ⟨rfl, -, -⟩ := hp
        simp only [Option.some.injEq, Addr.mk.injEq, and_true] at hp'
        obtain ⟨rfl, rfl⟩ := hp'
        rw [Nat.zero_add] at hx
        rw [hx, bys_getD _ _ hi]
  have HL0 := Lib.hid hl0
  have hqi : (n : Int) + (M : Int) = (q : Int) := by omega
  have hqb : q < 18446744073709551616 := by omega
  have hMb : M < 18446744073709551616 := by omega
  have HQM : Hid (n + m.length = q) := Lib.hid (by rw [hM]; exact hq)
  have HRUN := Lib.hid hrun
  have HN := Lib.hid hN
  have HA := Lib.hid hA
  have HM8 := Lib.hid m8
  have HT8 := Lib.hid ht8
  clear hh hvec hh1 m1 hvec1 hrow1 hrow hrun hvec7 hmod7 hA hN h7 hh8 m8 ht8 hrow8 hq hM hl hl0
  go_enter Tryz.func80, Tryz.ntmps80
  go_wp2_with (first | (at_builtin; refine wpList_append_run rfl _ _ _ _ rfl rfl rfl HRUN.out ?_))
  obtain ⟨w8, hw8⟩ : ∃ x, w7.setCell ⟨b, 9, none⟩ (.slice p0 N C0) = x := ⟨_, rfl⟩
  rw [hw8] at HL0 HM8 HT8 ⊢
  clear hw8 c10 f10 c9 d9 e9 HRUN
  go_wp2_with fail
  go_loopw [] (fun wr => ∃ (k : Nat) (p : Option Addr) (N' C' : Nat), Hid (Left wr b tb v q g A k p N' C') ∧ Hid (IsTab wr tb) ∧ Hid (Mod (fun k => k = tb ∨ k = b) w8 wr)) (fun wr => restLen wr b)
  case atStart => exact ⟨0, p0, N, C0, HL0, HT8, Lib.hid (Mod.refl _ _)⟩
  case round =>
    obtain ⟨k, p, N', C', HLR, HTR, HMR⟩ := hrel
    clear HL0 HT8
    have q0 := (cell_of HLR.out.hash 0).trans (hash_t _ _ _ _)
    have q9 := (cell_of HLR.out.hash 9).trans (hash_rest _ _ _ _)
    have hlen := HLR.out.len
    have hcap := HLR.out.cap
    have hN' := HN.out
    by_cases h64 : 64 ≤ N'
    · obtain rfl := HLR.out.ptr (by omega)
      have hN'l : N' ≤ 1099511627776 := by omega
      have hAl : 64 * k + 64 ≤ A.length := by omega
      have hblk : ((A.drop (64 * k)).take 64).length = 64 := by simp; omega
      have hmix := fun w' (m' : Mod Go.Proofs.YtjilbnpehgigjaaGreat.nil wr w') => shaMix tb b 1 152 _ (mixK A v k) ((A.drop (64 * k)).take 64) g (64 * k) C' w' (HTR.out.mod m' (not_nil _)) hne (m'.keep HLR.out.hash) (fun j hj => hash_h tb _ _ _ j hj) (fun i hi => by
        rw [drop_getD _ _ _ hi]
        exact cell_kept (HLR.out.cells (64 * k + i) (by omega)) m' (World.block_lt_of_cell? _ _ (HLR.out.cells (64 * k + i) (by omega))) (not_nil _)) hblk (by omega)
      have HMIX := Lib.hid hmix
      clear hmix hblk
      have r1 : restLen wr b = N' := HLR.out.restLen
      have HR1 := Lib.hid r1
      clear r1
      have hci : (64 : Int) ≤ (C' : Int) := by omega
      go_upto_region 3 with (fail)
      go_region_held3 (fun w' => w'.cell? ⟨b, 0, none⟩ = some (.pointer (some ⟨tb, 0, none⟩)) ∧ w'.cell? ⟨b, 9, none⟩ = some (.slice (some ⟨g, 64 * k, none⟩) N' C')) (first | exact ⟨q0, q9⟩ | exact ⟨r0, r9⟩) (first
        | (go_at_call 103; refine (HMIX.out _ (Mod.refl Go.Proofs.YtjilbnpehgigjaaGreat.nil wr).drew).mono ?_; rintro e w6 ⟨rfl, hf6, hh6, hm6⟩; rw [hash_arr8] at hh6; have r0 := (cell_of hh6 0).trans (hash_t _ _ _ _); have r9 := (cell_of hh6 9).trans (hash_rest _ _ _ _); have rf := free_of hh6 9; have HF6 := Lib.hid hf6; have HH6 := Lib.hid hh6; have HM6 := Lib.hid hm6; clear hf6 hh6 hm6))
      clear r0 q0 q9 HMIX hci
      have HLEN := Lib.hid hlen
      have hw6 : ∀ p2 N2 C2, N2 + 64 = N' → N2 ≤ C2 → (0 < N2 → p2 = some ⟨g, 64 * (k + 1), none⟩) → Left (w6.setCell ⟨b, 9, none⟩ (.slice p2 N2 C2)) b tb v q g A (k + 1) p2 N2 C2 ∧ IsTab (w6.setCell ⟨b, 9, none⟩ (.slice p2 N2 C2)) tb ∧ Mod (fun k => k = tb ∨ k = b) w8 (w6.setCell ⟨b, 9, none⟩ (.slice p2 N2 C2)) := fun p2 N2 C2 h1 h2 h3 => by
        have hm : Mod (fun k => k = tb ∨ k = b) wr (w6.setCell ⟨b, 9, none⟩ (.slice p2 N2 C2)) := (((Mod.refl _ wr).drew).trans HM6.out (fun _ _ h => h)).setCell _ _ (fun _ => .inr rfl)
        refine ⟨⟨?_, by have := HLEN.out; omega, h2, h3, fun i hi => ?_⟩, ?_, HMR.out.trans hm (fun _ _ h => h)⟩
        · have h := heap_setCell_same (off := 9) HH6.out (.slice p2 N2 C2)
          rw [hash_set_rest] at h
          exact h
        · have hc := HLR.out.cells i hi
          exact cell_kept hc hm (World.block_lt_of_cell? _ _ hc) (by omega)
        · exact full_tab ((heap_setCell_other _ hne).trans HF6.out)
      have HW6 := Lib.hid hw6
      clear hw6 hlen
      obtain ⟨N2, rfl⟩ : ∃ N2, N' = N2 + 64 := ⟨N' - 64, by omega⟩
      obtain ⟨C2, rfl⟩ : ∃ C2, C' = C2 + 64 := ⟨C' - 64, by omega⟩
      by_cases hC : C2 = 0
      · subst hC
        obtain rfl : N2 = 0 := by omega
        have H := Lib.hid (HW6.out (some ⟨g, 64 * k, none⟩) 0 0 rfl (by omega) (fun h => by omega))
        have HRL : Hid (restLen (w6.setCell ⟨b, 9, none⟩ (.slice (some ⟨g, 64 * k, none⟩) 0 0)) b = 0) := Lib.hid (H.out.1.restLen)
        go_wp2_with fail
        exact ⟨⟨k + 1, _, _, _, Lib.hid H.out.1, Lib.hid H.out.2.1, Lib.hid H.out.2.2⟩, by rw [HRL.out, HR1.out]; omega⟩
      · have H := Lib.hid (HW6.out (some ⟨g, 64 * k + 64, none⟩) N2 C2 rfl (by omega) (fun h => by rw [show 64 * (k + 1) = 64 * k + 64 by omega]))
        have HRL : Hid (restLen (w6.setCell ⟨b, 9, none⟩ (.slice (some ⟨g, 64 * k + 64, none⟩) N2 C2)) b = N2) := Lib.hid (H.out.1.restLen)
        go_wp2_with fail
        exact ⟨⟨k + 1, _, _, _, Lib.hid H.out.1, Lib.hid H.out.2.1, Lib.hid H.out.2.2⟩, by rw [HRL.out, HR1.out]; omega⟩
    · have hk : k = N / 64 := by omega
      obtain ⟨D, hD⟩ : ∃ D, A.drop (64 * k) = D := ⟨_, rfl⟩
      have hDl : D.length = N' := by rw [← hD, List.length_drop]; omega
      have hrowD : IsRow (fun _ => True) wr (.slice p N' C') (bys D) := by
        refine ⟨p, C', by rw [bys_length, hDl], fun i hi => ?_⟩
        rw [bys_length] at hi
        have hc := HLR.out.cells (64 * k + i) (by omega)
        refine ⟨g, 64 * k, HLR.out.ptr (by omega), trivial, World.block_lt_of_cell? _ _ hc, ?_⟩
        rw [hc, bys_getD _ _ hi, ← hD]
        simp [List.getD_eq_getElem?_getD, List.getElem?_drop]
      have HRD := Lib.hid hrowD
      have HDL := Lib.hid hDl
      have HD := Lib.hid hD
      have HKK := Lib.hid hk
      clear hlen hcap hN' hk hD hDl hrowD q0
      go_wp2_with fail
      refine (cloneBytes _ _ D wr HRD.out (by have := HDL.out; omega)).mono ?_
      rintro e w9 ⟨v9, rfl, hv9, hm9⟩
      have hh9 := hm9.keep HLR.out.hash
      have r9 := (cell_of hh9 9).trans (hash_rest _ _ _ _)
      have rf := free_of hh9 9
      have hfin : IsHash (w9.setCell ⟨b, 9, none⟩ v9) b tb (mixK A v k) v9 q := by
        unfold IsHash
        rw [heap_setCell_same hh9, hash_set_rest]
      have hm10 : Mod (fun k => k = tb ∨ k = b ∨ S k) w (w9.setCell ⟨b, 9, none⟩ v9) := ((HM8.out.trans HMR.out (fun _ _ h => h.elim .inl (fun h => .inr (.inl h)))).thenNil hm9).setCell _ _ (fun _ => .inr (.inl rfl))
      have hbr : b < wr.heap.size := heap_lt HLR.out.hash
      have hv10 : IsVec (fun k => w.heap.size ≤ k) (w9.setCell ⟨b, 9, none⟩ v9) 5 1 v9 D.length (bys D) := (hv9.mod ((Mod.refl (· = b) w9).setCell ⟨b, 9, none⟩ v9 (fun _ => rfl)) (fun j _ hj e => by omega)).mono (fun j _ hj => by have := HM8.out.size; have := HMR.out.size; omega)
      have ht10 : IsTab (w9.setCell ⟨b, 9, none⟩ v9) tb := (HTR.out.mod hm9 (not_nil _)).mod ((Mod.refl (· = b) w9).setCell ⟨b, 9, none⟩ v9 (fun _ => rfl)) hne
      have HF := Lib.hid (And.intro hfin (And.intro hv10 (And.intro ht10 hm10)))
      obtain ⟨p9, c9, rfl⟩ := hv9.form
      clear hfin hm10 hv10 ht10 hv9 hm9 hh9
      go_wp2_with fail
      go_end0
      refine HPOST.out _ (w9.setCell ⟨b, 9, none⟩ (.slice p9 D.length c9)) ⟨rfl, ⟨.slice p9 D.length c9, ?_, ?_⟩, HF.out.2.2.1, HF.out.2.2.2⟩
      · rw [HA.out, HN.out, ← HKK.out, HQM.out]; exact HF.out.1
      · rw [HA.out, HN.out, ← HKK.out, HD.out]; exact HF.out.2.1
end Go.Proofs.YtjilbnpehgigjaaGreat

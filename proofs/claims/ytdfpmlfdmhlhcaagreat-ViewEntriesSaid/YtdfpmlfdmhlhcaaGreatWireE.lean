/- wire's writer, with its error: any number, any text, Done. -/
import Derived.Test.YtdfpmlfdmhlhcaaGreatWire
import Derived.Test.YtdfpmlfdmhlhcaaGreatShaNew
import Derived.Test.YtdfpmlfdmhlhcaaGreatItems
namespace Go.Proofs.YtdfpmlfdmhlhcaaGreat
open Go.RowKit
/-- a writer at block b, all of it at blocks of S: it has written l; er: its error -/
structure IsEncE (S : Nat → Prop) (w : World) (b : Nat) (l : List UInt8) (er : Int) : Prop where
  lo : S b
  ex : ∃ p q, w.heap[b]? = some (.cells #[.slice p l.length q, .int .i64 er] 160 (0, 0)) ∧ IsVec (fun k => S k ∧ k ≠ b) w 5 1 (.slice p l.length q) l.length (bys l)
theorem IsEncE.mono {S T : Nat → Prop} {w : World} {b : Nat} {l : List UInt8} {er : Int} (h : IsEncE S w b l er) (hs : ∀ k, k < w.heap.size → S k → T k) : IsEncE T w b l er := by
  obtain ⟨p, q, h1, h2⟩ := h.ex
  exact ⟨hs b (heap_lt h1) h.lo, p, q, h1, h2.mono (fun k hk h => ⟨hs k hk h.1, h.2⟩)⟩
theorem IsEncE.mod {S T : Nat → Prop} {w w' : World} {b : Nat} {l : List UInt8} {er : Int} (h : IsEncE S w b l er) (m : Mod T w w') (hs : ∀ k, k < w.heap.size → S k → ¬ T k) : IsEncE S w' b l er := by
  obtain ⟨p, q, h1, h2⟩ := h.ex
  exact ⟨h.lo, p, q, (m.block b (heap_lt h1) (hs b (heap_lt h1) h.lo)).trans h1, h2.mod m (fun k hk h => hs k hk h.1)⟩
theorem IsEncE.modNil {S : Nat → Prop} {w w' : World} {b : Nat} {l : List UInt8} {er : Int} (h : IsEncE S w b l er) (m : Mod nil w w') : IsEncE S w' b l er := h.mod m (fun _ _ _ h => h)
theorem IsEncE.lt {S : Nat → Prop} {w : World} {b : Nat} {l : List UInt8} {er : Int} (h : IsEncE S w b l er) : b < w.heap.size := by
  obtain ⟨p, q, h1, h2⟩ := h.ex
  exact heap_lt h1
theorem IsEncE.ok {S : Nat → Prop} {w : World} {b : Nat} {l : List UInt8} (h : IsEncE S w b l 0) : IsEncS S w b l := ⟨h.lo, h.ex⟩
theorem IsEncS.e {S : Nat → Prop} {w : World} {b : Nat} {l : List UInt8} (h : IsEncS S w b l) : IsEncE S w b l 0 := ⟨h.lo, h.ex⟩
theorem IsEnc.e {B : Nat} {w : World} {b : Nat} {l : List UInt8} (h : IsEnc B w b l) : IsEncE (fun k => B ≤ k) w b l 0 := h.wide.e
/-- does a number go into so many bytes? -/
def fitsN (n : Int) (size : Nat) : Prop := 0 ≤ n ∧ n ≤ 4611686018427387904 ∧ n.toNat < 2 ^ (8 * size)
instance (n : Int) (size : Nat) : Decidable (fitsN n size) := inferInstanceAs (Decidable (_ ∧ _))
/-- what a writer is behind a number -/
def encN (l : List UInt8) (er : Int) (n : Int) (size : Nat) : List UInt8 × Int := if er ≠ 0 then (l, er) else if fitsN n size then (l ++ nb n size, 0) else (l, 1)
/-- .. behind a text -/
def encT (l : List UInt8) (er : Int) (m : List UInt8) : List UInt8 × Int := if er ≠ 0 then (l, er) else if 65535 < m.length then (l, 3) else (l ++ nb m.length 2 ++ m, 0)
theorem encN_len (l : List UInt8) (er n : Int) (size : Nat) : (encN l er n size).1.length ≤ l.length + size := by
  unfold encN
  split
  · exact Nat.le_add_right _ _
  · split
    · rw [List.length_append, nb_length]; exact Nat.le_refl _
    · exact Nat.le_add_right _ _
theorem pow8_pos (size : Nat) : 0 < 2 ^ (8 * size) := Nat.pow_pos (by omega)
set_option maxRecDepth 100000 in
set_option maxHeartbeats 1000000 in
theorem encNumE (S : Nat → Prop) (b : Nat) (l : List UInt8) (er n sz : Int) (size : Nat) (W0 : World) (h : IsEncE S W0 b l er) (hB : ∀ k, W0.heap.size ≤ k → S k) (hs : sz = (size : Int)) (h1 : 1 ≤ size) (h8 : size ≤ 8) (hl : l.length ≤ 1099511627776) :
    Calls Tryz.prog 38 #[.pointer (some ⟨b, 0, none⟩), .int .i64 n, .int .i64 sz] W0 fun e w' => e = .returned (.tuple #[]) ∧ IsEncE S w' b (encN l er n size).1 (encN l er n size).2 ∧ Mod S W0 w' := by
  subst hs
  by_cases he : er = 0
  · subst he
    by_cases hf : fitsN n size
    · obtain ⟨k, rfl⟩ := Int.eq_ofNat_of_zero_le hf.1
      have e : encN l 0 (k : Int) size = (l ++ nb (k : Int) size, 0) := by unfold encN; rw [if_neg (by simp), if_pos hf]
      rw [e]
      refine (encNumS S b l k size W0 h.ok hB h1 h8 (by have := hf.2.1; omega) (by have := hf.2.2; simpa using this) hl).mono ?_
      rintro e w' ⟨rfl, a, m⟩
      refine ⟨rfl, ?_, m⟩
      unfold nb
      rw [Int.toNat_natCast]
      exact a.e
    · have e : encN l 0 n size = (l, 1) := by unfold encN; rw [if_neg (by simp), if_neg hf]
      rw [e]
      obtain ⟨p0, q0, hb0, hv0⟩ := h.ex
      have c0 := cell_of hb0 1
      have f0 := free_of hb0 1
      simp only [List.getElem?_toArray, List.getElem?_cons_zero, List.getElem?_cons_succ] at c0
      have HEND : Hid (IsEncE S (W0.setCell ⟨b, 1, none⟩ (.int .i64 1)) b l 1 ∧ Mod S W0 (W0.setCell ⟨b, 1, none⟩ (.int .i64 1))) := Lib.hid ⟨⟨h.lo, p0, q0, heap_setCell_same hb0 (.int .i64 1), hv0.mod (T := (· = b)) ((Mod.refl _ _).setCell _ _ (fun _ => rfl)) (fun j _ h1 h2 => h1.2 h2)⟩, (Mod.refl _ _).setCell _ _ (fun _ => h.lo)⟩
      by_cases hA : 0 ≤ n ∧ n ≤ 4611686018427387904
      · obtain ⟨k, rfl⟩ := Int.eq_ofNat_of_zero_le hA.1
        have hs8 : size < 8 := by
          rcases Nat.lt_or_ge size 8 with h' | h'
          · exact h'
          · obtain rfl : size = 8 := by omega
            exact absurd ⟨hA.1, hA.2, by have := hA.2; simp; omega⟩ hf
        obtain ⟨q, hq⟩ : ∃ q : Nat, (k : Int) / 2 ^ (8 * size) = (q : Int) := ⟨k / 2 ^ (8 * size), by simp⟩
        have hqp : 0 < q := by
          have hq2 : k / 2 ^ (8 * size) = q := by have : ((k / 2 ^ (8 * size) : Nat) : Int) = (q : Int) := by rw [← hq]; simp
                                                  exact_mod_cast this
          rw [← hq2]
          apply Nat.div_pos _ (pow8_pos size)
          rcases Nat.lt_or_ge k (2 ^ (8 * size)) with h' | h'
          · exact absurd ⟨hA.1, hA.2, by simpa using h'⟩ hf
          · exact h'
        have hA' := decide_eq_true hA
        clear hA hf hb0 hv0 h e
        go_enter Tryz.func38, Tryz.ntmps38
        go_wp2_with fail
        refine (wireMay size h1 h8 _).mono ?_
        rintro e w1 ⟨rfl, rfl⟩
        go_wp2_with fail
        refine (numAmount _ _).mono ?_
        rw [hA']
        rintro e w1 ⟨rfl, rfl⟩
        go_wp2_with fail
        refine bodyPost_ret (results_none rfl _ _ _) rfl ?_
        exact ⟨rfl, HEND.out⟩
      · have hA' := decide_eq_false hA
        clear hA hf hb0 hv0 h e
        go_enter Tryz.func38, Tryz.ntmps38
        go_wp2_with fail
        refine (wireMay size h1 h8 _).mono ?_
        rintro e w1 ⟨rfl, rfl⟩
        go_wp2_with fail
        refine (numAmount _ _).mono ?_
        rw [hA']
        rintro e w1 ⟨rfl, rfl⟩
        go_wp2_with fail
        refine bodyPost_ret (results_none rfl _ _ _) rfl ?_
        exact ⟨rfl, HEND.out⟩
  · have e : encN l er n size = (l, er) := by unfold encN; rw [if_pos he]
    rw [e]
    obtain ⟨p0, q0, hb0, hv0⟩ := id h.ex
    have c0 := cell_of hb0 1
    simp only [List.getElem?_toArray, List.getElem?_cons_zero, List.getElem?_cons_succ] at c0
    have H := Lib.hid h
    have hne : (er != 0) = true := by simpa using he
    clear hb0 hv0 h e he
    go_enter Tryz.func38, Tryz.ntmps38
    go_wp2_with fail
    refine bodyPost_ret (results_none rfl _ _ _) rfl ?_
    exact ⟨rfl, H.out, Mod.refl _ _⟩
theorem encDoneE (S : Nat → Prop) (b : Nat) (l : List UInt8) (er : Int) (W0 : World) (h : IsEncE S W0 b l er) (hl : l.length ≤ 1099511627776) :
    Calls Tryz.prog 40 #[.pointer (some ⟨b, 0, none⟩)] W0 fun e w' => ∃ v, e = .returned (.tuple #[v, .int .i64 er]) ∧ IsVec (fun k => W0.heap.size ≤ k) w' 5 1 v (if er = 0 then l else []).length (bys (if er = 0 then l else [])) ∧ Mod nil W0 w' := by
  obtain ⟨p0, q0, hb0, hv0⟩ := h.ex
  have c0 := cell_of hb0 0
  have c1 := cell_of hb0 1
  simp only [List.getElem?_toArray, List.getElem?_cons_zero, List.getElem?_cons_succ] at c0 c1
  have HV0 := Lib.hid hv0
  clear hb0 hv0 h
  by_cases he : er = 0
  · subst he
    rw [if_pos rfl]
    go_enter Tryz.func40, Tryz.ntmps40
    go_wp2_with fail
    refine (cloneBytes _ _ l W0 HV0.out.row (by omega)).mono ?_
    rintro e w' ⟨v, rfl, hv, hm⟩
    go_wp2_with fail
    go_ret2
    exact ⟨v, rfl, hv, hm⟩
  · rw [if_neg he]
    have hne : (er != 0) = true := by simpa using he
    have HN : Hid (IsVec (fun k => W0.heap.size ≤ k) W0 5 1 (.slice none 0 0) 0 []) := Lib.hid (IsVec.nil _ _ _ _)
    clear he
    go_enter Tryz.func40, Tryz.ntmps40
    go_wp2_with fail
    go_quiet (fail)
    go_wp2_with fail
    go_ret2
    exact ⟨_, rfl, HN.out.modNil ((Mod.refl _ _).drewN _), (Mod.refl _ _).drewN _⟩
set_option maxRecDepth 100000 in
set_option maxHeartbeats 1000000 in
theorem encBytesE (S T : Nat → Prop) (b nm cm : Nat) (pm : Option Addr) (l : List UInt8) (er : Int) (m : List UInt8) (W0 : World) (h : IsEncE S W0 b l er) (hB : ∀ k, W0.heap.size ≤ k → S k) (hx : IsRow T W0 (.slice pm nm cm) (bys m)) (hT : ∀ k, k < W0.heap.size → T k → ¬ S k) (hl : l.length ≤ 1099511627000) :
    Calls Tryz.prog 39 #[.pointer (some ⟨b, 0, none⟩), .slice pm nm cm] W0 fun e w' => e = .returned (.tuple #[]) ∧ IsEncE S w' b (encT l er m).1 (encT l er m).2 ∧ Mod S W0 w' := by
  have hml : m.length = nm := by
    obtain ⟨_, _, h, _⟩ := hx
    simp only [Value.slice.injEq, bys_length] at h
    exact h.2.1.symm
  by_cases he : er = 0
  · subst he
    by_cases hf : 65535 < nm
    · have e : encT l 0 m = (l, 3) := by unfold encT; rw [if_neg (by simp), if_pos (by omega)]
      rw [e]
      obtain ⟨p0, q0, hb0, hv0⟩ := h.ex
      have c0 := cell_of hb0 1
      have f0 := free_of hb0 1
      simp only [List.getElem?_toArray, List.getElem?_cons_zero, List.getElem?_cons_succ] at c0
      have HEND : Hid (IsEncE S (W0.setCell ⟨b, 1, none⟩ (.int .i64 3)) b l 3 ∧ Mod S W0 (W0.setCell ⟨b, 1, none⟩ (.int .i64 3))) := Lib.hid ⟨⟨h.lo, p0, q0, heap_setCell_same hb0 (.int .i64 3), hv0.mod (T := (· = b)) ((Mod.refl _ _).setCell _ _ (fun _ => rfl)) (fun j _ h1 h2 => h1.2 h2)⟩, (Mod.refl _ _).setCell _ _ (fun _ => h.lo)⟩
      have hg : (65535 : Int) < (nm : Int) := by omega
      clear hb0 hv0 h e hx hml hf
      go_enter Tryz.func39, Tryz.ntmps39
      go_wp2_with fail
      go_end0
      exact ⟨rfl, HEND.out⟩
    · have e : encT l 0 m = (l ++ nb m.length 2 ++ m, 0) := by unfold encT; rw [if_neg (by simp), if_neg (by omega)]
      rw [e, hml]
      have e2 : encN l 0 (nm : Int) 2 = (l ++ nb (nm : Int) 2, 0) := by unfold encN; rw [if_neg (by simp), if_pos ⟨by omega, by omega, by simp; omega⟩]
      have hcall := encNumE S b l 0 (nm : Int) 2 2 W0 h hB rfl (by omega) (by omega) (by omega)
      rw [e2] at hcall
      simp only at hcall
      have HC := Lib.hid hcall
      have HX := Lib.hid hx
      have HT := Lib.hid hT
      have HB := Lib.hid hB
      have HML := Lib.hid hml
      obtain ⟨p0, q0, hb0, hv0⟩ := id h.ex
      have HLO := Lib.hid h.lo
      have c0 := cell_of hb0 1
      simp only [List.getElem?_toArray, List.getElem?_cons_zero, List.getElem?_cons_succ] at c0
      have hg : ¬ (65535 : Int) < (nm : Int) := by omega
      clear hb0 hv0 h e e2 hx hml hT hcall hB
      go_enter Tryz.func39, Tryz.ntmps39
      go_wp2_with fail
      refine HC.out.mono ?_
      rintro e w1 ⟨rfl, he1, hm1⟩
      obtain ⟨p1, q1, hb1, hv1⟩ := he1.ex
      obtain ⟨l1, hl1⟩ : ∃ x, l ++ nb (nm : Int) 2 = x := ⟨_, rfl⟩
      rw [hl1] at hb1 hv1
      have HL1 := Lib.hid hl1
      obtain ⟨n1, hn1⟩ : ∃ x, l1.length = x := ⟨_, rfl⟩
      rw [hn1] at hb1
      have hn1b : n1 ≤ l.length + 2 := by rw [← hn1, ← hl1, List.length_append, nb_length]; exact Nat.le_refl _
      have d0 := cell_of hb1 0
      simp only [List.getElem?_toArray, List.getElem?_cons_zero, List.getElem?_cons_succ] at d0
      have hx1 := HX.out.mod hm1 (fun k hk h => HT.out k hk h)
      obtain ⟨v2, w2, hrun, hv2, hm2⟩ := bytes_append (S := fun k => S k ∧ k ≠ b) 26 hv1 hx1 (by rw [hn1, HML.out]; omega)
      obtain ⟨p2, c2, rfl⟩ := hv2.form
      rw [hn1] at hrun
      have hb2 := (hm2.block b (heap_lt hb1) (fun h => h.2 rfl)).trans hb1
      have f2 := free_of hb2 0
      have d2 := cell_of hb2 0
      simp only [List.getElem?_toArray, List.getElem?_cons_zero, List.getElem?_cons_succ] at d2
      have hm3 := (Mod.refl (· = b) w2).setCell ⟨b, 0, none⟩ (.slice p2 (l1 ++ m).length c2) (fun _ => rfl)
      have HEND : Hid (IsEncE S (w2.setCell ⟨b, 0, none⟩ (.slice p2 (l1 ++ m).length c2)) b (l1 ++ m) 0 ∧ Mod S W0 (w2.setCell ⟨b, 0, none⟩ (.slice p2 (l1 ++ m).length c2))) := Lib.hid
        ⟨⟨HLO.out, p2, c2, heap_setCell_same hb2 _, (hv2.mod hm3 (fun k hk h e => by
            rcases h with h | h
            · exact h.2 e
            · have := heap_lt hb1; omega)).mono (fun k hk h => by
            rcases h with h | h
            · exact h
            · exact ⟨HB.out k (by have := hm1.size; omega), by have := heap_lt hb1; omega⟩)⟩,
          (hm1.trans hm2 (fun k _ h => h.1)).trans hm3 (fun k _ h => by rw [h]; exact HLO.out)⟩
      obtain ⟨n2, hn2⟩ : ∃ x, (l1 ++ m).length = x := ⟨_, rfl⟩
      rw [hn2] at hrun HEND
      have HRUN := Lib.hid hrun
      clear hm3 hb1 hv1 hx1 hrun hv2 hm2 hb2 hn2 hl1 hn1 he1 hm1 c0
      go_wp2_with (first | (at_builtin; refine wpList_append_run rfl _ _ _ _ rfl rfl rfl HRUN.out ?_))
      go_end0
      exact ⟨rfl, by rw [HL1.out]; exact HEND.out.1, HEND.out.2⟩
  · have e : encT l er m = (l, er) := by unfold encT; rw [if_pos he]
    rw [e]
    obtain ⟨p0, q0, hb0, hv0⟩ := id h.ex
    have c0 := cell_of hb0 1
    simp only [List.getElem?_toArray, List.getElem?_cons_zero, List.getElem?_cons_succ] at c0
    have H := Lib.hid h
    have hne : (er != 0) = true := by simpa using he
    clear hb0 hv0 h e he hml hx
    go_enter Tryz.func39, Tryz.ntmps39
    go_wp2_with fail
    go_end0
    exact ⟨rfl, H.out, Mod.refl _ _⟩
end Go.Proofs.YtdfpmlfdmhlhcaaGreat

/- cflref1's writer with its error: any number, any text. -/
import Derived.Test.YtdfpmlfdmhlhcaaGreatRefEnc
import Derived.Test.YtdfpmlfdmhlhcaaGreatWireE
namespace Go.Proofs.YtdfpmlfdmhlhcaaGreat
open Go.RowKit
theorem IsREncE.lt {S : Nat → Prop} {w : World} {b : Nat} {l : List UInt8} {er : Int} (h : IsREncE S w b l er) : b < w.heap.size := by
  obtain ⟨p, q, h1, h2⟩ := h.ex
  exact heap_lt h1
/-- what the reference's writer is behind a number, behind a text -/
def rencN (l : List UInt8) (er : Int) (n : Int) (size : Nat) : List UInt8 × Int := if fitsN n size then (l ++ nb n size, er) else (l, if er = 0 then 1 else er)
def rencT (l : List UInt8) (er : Int) (m : List UInt8) : List UInt8 × Int := if 65535 < m.length then (l, if er = 0 then 3 else er) else (l ++ nb m.length 2 ++ m, er)
theorem rencN_len (l : List UInt8) (er n : Int) (size : Nat) : (rencN l er n size).1.length ≤ l.length + size := by
  unfold rencN
  split
  · rw [List.length_append, nb_length]; exact Nat.le_refl _
  · exact Nat.le_add_right _ _
theorem refFail (S : Nat → Prop) (b : Nat) (l : List UInt8) (er x : Int) (w : World) (h : IsREncE S w b l er) :
    Calls Tryz.prog 84 #[.pointer (some ⟨b, 0, none⟩), .int .i64 x] w fun e w' => e = .returned (.tuple #[]) ∧ IsREncE S w' b l (if er = 0 then x else er) ∧ Mod S w w' := by
  obtain ⟨p0, q0, hb0, hv0⟩ := id h.ex
  have c0 := cell_of hb0 1
  have f0 := free_of hb0 1
  simp only [List.getElem?_toArray, List.getElem?_cons_zero, List.getElem?_cons_succ] at c0
  by_cases he : er = 0
  · subst he
    rw [if_pos rfl]
    have HEND : Hid (IsREncE S (w.setCell ⟨b, 1, none⟩ (.int .i64 x)) b l x ∧ Mod S w (w.setCell ⟨b, 1, none⟩ (.int .i64 x))) := Lib.hid ⟨⟨h.lo, p0, q0, heap_setCell_same hb0 (.int .i64 x), hv0.mod (T := (· = b)) ((Mod.refl _ _).setCell _ _ (fun _ => rfl)) (fun j _ h1 h2 => h1.2 h2)⟩, (Mod.refl _ _).setCell _ _ (fun _ => h.lo)⟩
    clear hb0 hv0 h
    go_enter Tryz.func84, Tryz.ntmps84
    go_wp2_with fail
    go_end0
    exact ⟨rfl, HEND.out⟩
  · rw [if_neg he]
    have hne : (er == 0) = false := by simpa using he
    have H := Lib.hid h
    clear hb0 hv0 h f0 he
    go_enter Tryz.func84, Tryz.ntmps84
    go_wp2_with fail
    go_end0
    exact ⟨rfl, H.out, Mod.refl _ _⟩
theorem refFitsNo (n sz : Int) (size : Nat) (w : World) (hs : sz = (size : Int)) (hsz : size = 1 ∨ size = 2 ∨ size = 8 ∨ size = 4) (h : ¬ fitsN n size) : Calls Tryz.prog 83 #[.int .i64 n, .int .i64 sz] w fun e w' => e = .returned (.bool false) ∧ w' = w := by
  subst hs
  rcases hsz with rfl | rfl | rfl | rfl
  · have h' : n < 0 ∨ 255 < n := by
      unfold fitsN at h
      rcases Int.lt_or_le n 0 with h1 | h1
      · exact .inl h1
      · exact .inr (by rcases Int.lt_or_le 255 n with h2 | h2; exact h2; exact absurd ⟨h1, by omega, by simp; omega⟩ h)
    clear h
    rcases (show n < 0 ∨ (255 < n ∧ n ≤ 4611686018427387904) ∨ (0 ≤ n ∧ 4611686018427387904 < n) by omega) with h1 | h1 | h1
    all_goals
      go_enter Tryz.func83, Tryz.ntmps83
      go_wp2_with fail
      go_ret
      exact ⟨by simp <;> omega, rfl⟩
  · have h' : n < 0 ∨ 65535 < n := by
      unfold fitsN at h
      rcases Int.lt_or_le n 0 with h1 | h1
      · exact .inl h1
      · exact .inr (by rcases Int.lt_or_le 65535 n with h2 | h2; exact h2; exact absurd ⟨h1, by omega, by simp; omega⟩ h)
    clear h
    rcases (show n < 0 ∨ (65535 < n ∧ n ≤ 4611686018427387904) ∨ (0 ≤ n ∧ 4611686018427387904 < n) by omega) with h1 | h1 | h1
    all_goals
      go_enter Tryz.func83, Tryz.ntmps83
      go_wp2_with fail
      go_ret
      exact ⟨by simp <;> omega, rfl⟩
  · have h' : n < 0 ∨ 4611686018427387904 < n := by
      unfold fitsN at h
      rcases Int.lt_or_le n 0 with h1 | h1
      · exact .inl h1
      · exact .inr (by rcases Int.lt_or_le 4611686018427387904 n with h2 | h2; exact h2; exact absurd ⟨h1, by omega, by simp; omega⟩ h)
    clear h
    rcases (show n < 0 ∨ (0 ≤ n ∧ 4611686018427387904 < n) by omega) with h1 | h1
    all_goals
      go_enter Tryz.func83, Tryz.ntmps83
      go_wp2_with fail
      go_ret
      exact ⟨by simp <;> omega, rfl⟩
  · have h' : n < 0 ∨ 4294967295 < n := by
      unfold fitsN at h
      rcases Int.lt_or_le n 0 with h1 | h1
      · exact .inl h1
      · exact .inr (by rcases Int.lt_or_le 4294967295 n with h2 | h2; exact h2; exact absurd ⟨h1, by omega, by simp; omega⟩ h)
    clear h
    rcases (show n < 0 ∨ (4294967295 < n ∧ n ≤ 4611686018427387904) ∨ (0 ≤ n ∧ 4611686018427387904 < n) by omega) with h1 | h1 | h1
    all_goals
      go_enter Tryz.func83, Tryz.ntmps83
      go_wp2_with fail
      go_ret
      exact ⟨by simp <;> omega, rfl⟩
theorem refNumE (er : Int) (S : Nat → Prop) (b : Nat) (l : List UInt8) (n : Int) (sz : Int) (size : Nat) (W0 : World) (h : IsREncE S W0 b l er) (hB : ∀ k, W0.heap.size ≤ k → S k) (hs : sz = (size : Int)) (hsz : size = 1 ∨ size = 2 ∨ size = 8 ∨ size = 4) (hl : l.length ≤ 1099511627776) :
    Calls Tryz.prog 43 #[.pointer (some ⟨b, 0, none⟩), .int .i64 n, .int .i64 sz] W0 fun e w' => e = .returned (.tuple #[]) ∧ IsREncE S w' b (rencN l er n size).1 (rencN l er n size).2 ∧ Mod S W0 w' := by
  by_cases hf : fitsN n size
  · rw [show rencN l er n size = (l ++ nb n size, er) from if_pos hf]
    exact refNumSE er S b l n sz size W0 h hB hs hsz hf.1 hf.2.1 hf.2.2 hl
  · rw [show rencN l er n size = (l, if er = 0 then 1 else er) from if_neg hf]
    have hfail := refFail S b l er 1 W0 h
    obtain ⟨e2, he2⟩ : ∃ x, (if er = 0 then (1 : Int) else er) = x := ⟨_, rfl⟩
    rw [he2] at hfail ⊢
    have HF := Lib.hid hfail
    clear he2 hfail
    have HN := Lib.hid (refFitsNo n sz size W0 hs hsz hf)
    clear h hf hs hsz hB
    go_enter Tryz.func43, Tryz.ntmps43
    go_wp2_with fail
    refine HN.out.mono ?_
    rintro e w1 ⟨rfl, rfl⟩
    go_wp2_with fail
    refine HF.out.mono ?_
    rintro e w2 ⟨rfl, h2⟩
    have H2 := Lib.hid h2
    clear h2
    go_wp2_with fail
    refine bodyPost_ret (results_none rfl _ _ _) rfl ?_
    exact ⟨rfl, H2.out⟩
theorem refBytesE (er : Int) (S T : Nat → Prop) (b nm cm : Nat) (pm : Option Addr) (l m : List UInt8) (W0 : World) (h : IsREncE S W0 b l er) (hB : ∀ k, W0.heap.size ≤ k → S k) (hx : IsRow T W0 (.slice pm nm cm) (bys m)) (hT : ∀ k, k < W0.heap.size → T k → ¬ S k) (hl : l.length ≤ 1099511000000) :
    Calls Tryz.prog 45 #[.pointer (some ⟨b, 0, none⟩), .slice pm nm cm] W0 fun e w' => e = .returned (.tuple #[]) ∧ IsREncE S w' b (rencT l er m).1 (rencT l er m).2 ∧ Mod S W0 w' := by
  have hml : m.length = nm := by
    obtain ⟨_, _, h, _⟩ := hx
    simp only [Value.slice.injEq, bys_length] at h
    exact h.2.1.symm
  by_cases hf : 65535 < nm
  · rw [show rencT l er m = (l, if er = 0 then 3 else er) from if_pos (by omega)]
    have hfail := refFail S b l er 3 W0 h
    obtain ⟨e2, he2⟩ : ∃ x, (if er = 0 then (3 : Int) else er) = x := ⟨_, rfl⟩
    rw [he2] at hfail ⊢
    have HF := Lib.hid hfail
    clear he2 hfail
    have hg : (65535 : Int) < (nm : Int) := by omega
    clear h hf hB hx hml
    go_enter Tryz.func45, Tryz.ntmps45
    go_wp2_with fail
    refine HF.out.mono ?_
    rintro e w2 ⟨rfl, h2⟩
    have H2 := Lib.hid h2
    clear h2
    go_wp2_with fail
    refine bodyPost_ret (results_none rfl _ _ _) rfl ?_
    exact ⟨rfl, H2.out⟩
  · rw [show rencT l er m = (l ++ nb m.length 2 ++ m, er) from if_neg (by omega), hml]
    have hg : ¬ (65535 : Int) < (nm : Int) := by omega
    have HF := Lib.hid (refNumSE er S b l (nm : Int) 2 2 W0 h hB rfl (.inr (.inl rfl)) (by omega) (by omega) (by simp; omega) (by omega))
    have HX := Lib.hid hx
    have HT := Lib.hid hT
    have HB := Lib.hid hB
    have HML := Lib.hid hml
    clear h hf hB hx hml hT
    go_enter Tryz.func45, Tryz.ntmps45
    go_wp2_with fail
    refine HF.out.mono ?_
    rintro e w1 ⟨rfl, h1, hm1⟩
    have HM1 := Lib.hid hm1
    have HC := Lib.hid (refRawE er S T b (l ++ nb (nm : Int) 2) m _ w1 h1 (fun k hk => HB.out k (by have := hm1.size; omega)) (HX.out.mod hm1 (fun k hk h => HT.out k hk h)) (by rw [List.length_append, nb_length, HML.out]; omega))
    clear h1 hm1
    go_wp2_with fail
    refine HC.out.mono ?_
    rintro e w2 ⟨rfl, h2, hm2⟩
    have HE := Lib.hid (And.intro h2 (HM1.out.trans hm2 (fun k _ h => h)))
    clear h2 hm2
    go_wp2_with fail
    go_end0
    exact ⟨rfl, HE.out⟩
end Go.Proofs.YtdfpmlfdmhlhcaaGreat

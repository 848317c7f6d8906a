/- cflref27: Secret, parties, Small. -/
import Derived.Test.YtlkhihdgaimboaaRefShaD
import Derived.Test.YtlkhihdgaimboaaTaleE
namespace Go.Proofs.Ytlkhihdgaimboaa
open Go.RowKit

theorem refParties (n : Int) (N : Nat) (hN : min (max n 2) 16 = (N : Int)) (w : World) : Calls Try.prog 26 #[.int .i64 n] w fun e w' => e = .returned (.int .i64 N) ∧ w = w' := by
  rcases (show n < 2 ∨ (¬ n < 2 ∧ ¬ 16 < n) ∨ (¬ n < 2 ∧ 16 < n) by omega) with h | ⟨h, h'⟩ | ⟨h, h'⟩
  · have e2 : N = 2 := by omega
    subst e2
    clear hN
    go_enter Try.func26, Try.ntmps26
    go_wp2_with fail
    go_ret
    exact ⟨rfl, rfl⟩
  · have e2 : n = N := by omega
    subst e2
    clear hN
    go_enter Try.func26, Try.ntmps26
    go_wp2_with fail
    go_ret
    exact ⟨rfl, rfl⟩
  · have e2 : N = 16 := by omega
    subst e2
    clear hN
    go_enter Try.func26, Try.ntmps26
    go_wp2_with fail
    go_ret
    exact ⟨rfl, rfl⟩
set_option maxRecDepth 100000 in
set_option maxHeartbeats 1000000 in
theorem refSecret (n : Int) (w : World) (hn : n ≤ 9223372036854775807) :
    Calls Try.prog 16 #[.int .i64 n] w fun e w' => e = .returned (.string (textOf (shaOf (secretMsg n)))) ∧ Mod nil w w' := by
  refine (?_ : ∀ Post : Ending → World → Prop, Hid (∀ e w', (e = .returned (.string (textOf (shaOf (secretMsg n)))) ∧ Mod nil w w') → Post e w') → Calls Try.prog 16 #[.int .i64 n] w Post) _ (Lib.hid (fun _ _ h => h))
  intro Post HPOST
  obtain ⟨N, hN⟩ : ∃ N, (max n 0).toNat = N := ⟨_, rfl⟩
  have hmax : (if n < 0 then (0 : Int) else n) = (N : Int) := by split <;> omega
  have hNb : N ≤ 9223372036854775807 := by omega
  have HMSG : Hid (secretMsg n = [115, 101, 99, 114, 101, 116] ++ layC N 8 8) := Lib.hid (by rw [← hN]; rfl)
  clear hN
  have hcv := Lib.run_convert_bytes_const (P := Try.prog) w 22 5 #[.int .u8 115, .int .u8 101, .int .u8 99, .int .u8 114, .int .u8 101, .int .u8 116] 6 6 Try.underlying22 Try.underlying5
  simp only [List.size_toArray, List.length_cons, List.length_nil] at hcv
  go_enter Try.func16, Try.ntmps16
  go_wp2_with fail
  obtain ⟨g, hg⟩ : ∃ g, w.heap.size = g := ⟨_, rfl⟩
  generalize hw1 : w.alloc _ = w1
  have hh1 : w1.heap[g]? = some (.cells (bys [115, 101, 99, 114, 101, 116]).toArray 5 (6, 7)) := by rw [← hw1, ← hg, heap_alloc_new]; rfl
  have hm1 : Mod nil w w1 := by rw [← hw1]; exact (Mod.refl _ _).alloc _
  have HH1 := Lib.hid hh1
  have HM1 := Lib.hid hm1
  have HG := Lib.hid hg
  rw [hg]
  clear hw1 hh1 hm1 hg hcv
  refine (refPut N (by omega) w1).mono ?_
  rintro e w2 ⟨v2, rfl, hv2, hm2⟩
  obtain ⟨v3, w3, hrun, hv3, hm3⟩ := bytes_append_full (g := g) (n := 6) (l := [115, 101, 99, 114, 101, 116]) (m := layC N 8 8) 22 rfl (fun i hi => by
    rw [cell_of (hm2.keep HH1.out) i]
    rcases (show i = 0 ∨ i = 1 ∨ i = 2 ∨ i = 3 ∨ i = 4 ∨ i = 5 by omega) with rfl | rfl | rfl | rfl | rfl | rfl <;> rfl) hv2.row (by rw [layC_length]; omega) (by rw [layC_length]; omega)
  have hrow3 := hv3.row
  rw [← HMSG.out] at hrow3
  obtain ⟨p2, c2, rfl⟩ := hv2.form
  have HRUN := Lib.hid hrun
  have HROW3 := Lib.hid hrow3
  have HM3 : Hid (Mod nil w w3) := Lib.hid ((HM1.out.thenNil hm2).thenNil hm3)
  have hml : (secretMsg n).length = 14 := by rw [HMSG.out, List.length_append, layC_length]; rfl
  have HML := Lib.hid hml
  clear hv2 hm2 hrun hv3 hm3 hrow3 hml
  go_wp2_with (at_builtin; refine wpList_append_run rfl _ _ _ _ rfl rfl rfl HRUN.out ?_)
  refine (refHash _ _ (secretMsg n) w3 HROW3.out (by rw [HML.out]; omega)).mono ?_
  rintro e w9 ⟨v9, rfl, hv9, hm9⟩
  have hcells := hv9.cells
  obtain ⟨p9, c9, rfl⟩ := hv9.form
  have hl9 := shaOf_length (secretMsg n)
  obtain ⟨b9, hp9⟩ : ∃ b9, p9 = some ⟨b9, 0, none⟩ := by
    rcases vec_form1 hv9 with ⟨_, h0⟩ | ⟨g', c', he, _⟩
    · cases h0
    · simp only [Value.slice.injEq] at he
      exact ⟨g', he.1⟩
  subst hp9
  have hcvt := run_convert_bytes_back (P := Try.prog) w9 22 9 5 ⟨b9, 0, none⟩ c9 (shaOf (secretMsg n)) Try.underlying22 Try.underlying5 Try.underlying9 (fun j hj => by
    obtain ⟨p', c', hp, hcc⟩ := hcells
    obtain ⟨b', o', h1, _, _, h4⟩ := hcc j (by rw [bys_length]; exact hj)
    simp only [Value.slice.injEq] at hp
    obtain ⟨rfl, -, -⟩ := hp
    simp only [Option.some.injEq, Addr.mk.injEq, and_true] at h1
    obtain ⟨rfl, rfl⟩ := h1
    have h2 : (⟨b9, 0, none⟩ : Addr).add j = ⟨b9, 0 + j, none⟩ := by unfold Addr.add; split <;> simp_all
    rw [h2, h4, bys_getD _ _ hj, List.getD_eq_getElem?_getD, List.getElem?_eq_getElem hj]
    rfl)
  rw [hl9] at hcvt
  have HF := Lib.hid (HM3.out.thenNil hm9)
  obtain ⟨tx, htx⟩ : ∃ tx, (⟨(shaOf (secretMsg n)).toArray⟩ : ByteArray) = tx := ⟨_, rfl⟩
  rw [htx] at hcvt
  have HTX : Hid (textOf (shaOf (secretMsg n)) = tx) := Lib.hid htx
  clear hcells hv9 hm9 hl9 htx
  go_wp2_with fail
  exact HPOST.out _ _ ⟨by rw [HTX.out]; rfl, HF.out⟩
end Go.Proofs.Ytlkhihdgaimboaa

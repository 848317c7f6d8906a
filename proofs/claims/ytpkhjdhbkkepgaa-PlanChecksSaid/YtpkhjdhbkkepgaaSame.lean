/- The walks over the references' small things (package cflref). -/
import Derived.Test.YtpkhjdhbkkepgaaChecked
import Derived.Test.YtpkhjdhbkkepgaaBase
namespace Go.Proofs.Ytpkhjdhbkkepgaa
open Go.RowKit

theorem refInts (S T : Nat → Prop) (va vb : Value) (la lb : List Int) (w : World) (ha : IsRow S w va (la.map (.int .i64))) (hb : IsRow T w vb (lb.map (.int .i64))) (hl : la.length ≤ 9223372036854775807) :
    Calls Try.prog 12 #[va, vb] w fun e w' => e = .returned (.bool (decide (la = lb))) ∧ ∃ n, w' = w.drewN n := by
  obtain ⟨pa, ca, rfl, hca⟩ := ha
  obtain ⟨pb, cb, rfl, hcb⟩ := hb
  simp only [List.length_map] at *
  by_cases hlen : la.length = lb.length
  · rw [← hlen] at hcb ⊢
    have HR := Lib.hid hlen
    clear hlen
    go_enter Try.func12, Try.ntmps12
    go_wp2
    go_loopw [5] (fun v wr => ∃ k n : Nat, k ≤ la.length ∧ v = .int .i64 k ∧ la.take k = lb.take k ∧ wr = w.drewN n) (fun v _ => la.length - (intOf v).toNat)
    case atStart => exact ⟨0, 0, by omega, rfl, by simp, rfl⟩
    case round =>
      obtain ⟨k, n, hk, rfl, htk, rfl⟩ := hrel
      have Htk := Lib.hid htk
      clear htk
      by_cases hlt : k < la.length
      · obtain ⟨ba, oa, rfl, _, _, hxa⟩ := hca k hlt
        obtain ⟨bb, ob, rfl, _, _, hxb⟩ := hcb k hlt
        obtain ⟨x, hx⟩ : ∃ x, la.getD k 0 = x := ⟨_, rfl⟩
        obtain ⟨y, hy⟩ : ∃ y, lb.getD k 0 = y := ⟨_, rfl⟩
        have hlt' : k < lb.length := HR.out ▸ hlt
        have hya : w.cell? ⟨ba, oa + k, none⟩ = some (Value.int IntKind.i64 x) := by rw [hxa, ← hx]; simp [hlt]
        have hyb : w.cell? ⟨bb, ob + k, none⟩ = some (Value.int IntKind.i64 y) := by rw [hxb, ← hy]; simp [hlt']
        have Hx := Lib.hid hx
        have Hy := Lib.hid hy
        clear hca hcb hxa hxb hx hy
        go_wp2
        go_quiet (fail)
        go_wp2
        · rename_i hne
          go_ret
          refine ⟨?_, _, World.drewN_drewN ..⟩
          have : la ≠ lb := by
            intro h
            have h1 := Hx.out; have h2 := Hy.out; rw [h] at h1; simp [← h1, ← h2] at hne
          simp [this]
        · rename_i hne
          refine ⟨⟨k + 1, _, by omega, by go_num, ?_, rfl⟩, by simp [intOf]; omega⟩
          have h1 := Hx.out; have h2 := Hy.out; have h3 := Htk.out
          have h5 : x = y := by simpa using hne
          rw [List.take_succ_eq_append_getElem hlt, List.take_succ_eq_append_getElem hlt', h3]
          simp [List.getD_eq_getElem?_getD, hlt, hlt'] at h1 h2
          rw [h1, h2, h5]
      · go_wp2
        go_ret
        obtain rfl : k = la.length := by omega
        refine ⟨?_, _, rfl⟩
        have := Htk.out
        rw [List.take_of_length_le (by omega), HR.out, List.take_of_length_le (by omega)] at this
        simp [this]
  · have hb1 : ((la.length : Int) != lb.length) = true := by rw [bne_iff_ne]; omega
    go_enter Try.func12, Try.ntmps12
    go_wp2
    go_ret
    exact ⟨by simp; intro h; exact hlen (by rw [h]), 0, rfl⟩
theorem refInts_blocks (b c T U n k m : Nat) (l : List Int) (w : World) (hb : w.heap[b]? = some (.cells (ints l) T (0, 0))) (hc : w.heap[c]? = some (.cells (ints l) U (0, 0))) (hn : n = l.length) (hl : n ≤ 9223372036854775807) :
    Calls Try.prog 12 #[.slice (some ⟨b, 0, none⟩) n k, .slice (some ⟨c, 0, none⟩) n m] w fun e w' => e = .returned (.bool true) ∧ Mod nil w w' :=
  (refInts (fun _ => True) (fun _ => True) _ _ l l w (.ofBlock hb trivial _ _ (by simp [hn])) (.ofBlock hc trivial _ _ (by simp [hn])) (hn ▸ hl)).mono (fun e w' ⟨h1, n, h2⟩ => ⟨by rw [h1]; simp, h2 ▸ (Mod.refl nil w).drewN n⟩)
end Go.Proofs.Ytpkhjdhbkkepgaa

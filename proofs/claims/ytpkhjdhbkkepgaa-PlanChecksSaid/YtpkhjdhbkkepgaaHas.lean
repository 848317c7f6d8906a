/- The walk over cflref.Has. -/
import Derived.Test.YtpkhjdhbkkepgaaChecked
import Derived.Test.YtpkhjdhbkkepgaaBase
namespace Go.Proofs.Ytpkhjdhbkkepgaa
open Go.RowKit

theorem refHas (S : Nat → Prop) (v : Value) (l : List Int) (x : Int) (w : World) (h : IsRow S w v (l.map (.int .i64))) (hl : l.length ≤ 9223372036854775807) :
    Calls Try.prog 48 #[v, .int .i64 x] w fun e w' => e = .returned (.bool (decide (x ∈ l))) ∧ w = w' := by
  obtain ⟨p, c, rfl, hc⟩ := h
  simp only [List.length_map] at *
  obtain ⟨n, hn⟩ : ∃ n, l.length = n := ⟨_, rfl⟩
  rw [hn] at hl ⊢
  have HN := Lib.hid hn
  have HC := Lib.hid hc
  obtain ⟨r, hr⟩ : ∃ r, decide (x ∈ l) = r := ⟨_, rfl⟩
  rw [hr]
  have HR := Lib.hid hr
  clear hn hc hr
  go_enter Try.func48, Try.ntmps48
  go_wp2_with fail
  go_loopw [5] (fun v wr => ∃ k : Nat, k ≤ n ∧ v = .int .i64 k ∧ Hid (x ∉ l.take k) ∧ wr = w) (fun v _ => n - (intOf v).toNat)
  case atStart => exact ⟨0, by omega, rfl, Lib.hid (by simp), rfl⟩
  case round =>
    obtain ⟨k, hk, rfl, HT, rfl⟩ := hrel
    by_cases hlt : k < n
    · have hkl : k < l.length := by have := HN.out; omega
      obtain ⟨b, o, rfl, _, _, hx⟩ := HC.out k hkl
      obtain ⟨y, hy⟩ : ∃ y, l[k] = y := ⟨_, rfl⟩
      have hcell : wr.cell? ⟨b, o + k, none⟩ = some (.int .i64 y) := by rw [hx, ← hy]; simp [hkl]
      have HY := Lib.hid hy
      clear hx hy
      by_cases he : y = x
      · have hb : (y == x) = true := by simpa using he
        go_wp2_with fail
        go_ret
        refine ⟨?_, rfl⟩
        rw [← HR.out]
        have : x ∈ l := by rw [← he, ← HY.out]; exact List.getElem_mem hkl
        simp [this]
      · have hb : (y == x) = false := by simpa using he
        go_wp2_with fail
        refine ⟨⟨k + 1, by omega, by go_num, Lib.hid ?_, trivial⟩, by simp [intOf]; omega⟩
        rw [← List.take_append_getElem hkl, List.mem_append, HY.out]
        simp only [List.mem_singleton]
        exact fun h => h.elim HT.out (fun h => he h.symm)
    · obtain rfl : k = n := by omega
      go_wp2_with fail
      go_ret
      refine ⟨?_, rfl⟩
      have h := HT.out
      rw [← HN.out, List.take_length] at h
      rw [← HR.out]
      simp [h]
end Go.Proofs.Ytpkhjdhbkkepgaa

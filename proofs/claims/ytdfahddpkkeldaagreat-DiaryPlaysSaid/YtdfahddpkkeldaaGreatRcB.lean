/- Cells of an argument read plainly: bytes, bools. -/
import Derived.Test.YtdfahddpkkeldaaGreatRd
import Derived.Test.YtdfahddpkkeldaaGreatNb
namespace Go.Proofs.YtdfahddpkkeldaaGreat
open Go.ChangeShapes Go.WideShapes Go.ChangeAt Go.RowKit
theorem Rc.bytes {w : World} {t : TypeId} {cs : List Value} (ht : Tryz.prog.underlying t = some (.slice 5)) (h : Rc w t cs) : ∃ (p : Option Addr) (len cap : Nat) (l : List UInt8), cs = [.slice p len cap] ∧ len ≤ cap ∧ cap ≤ maxLen ∧ l.length = len ∧ IsRow (· < w.heap.size) w (.slice p len cap) (bys l) := by
  have hc : Tryz.prog.cellsOf 5 = 1 := by kernel_rfl
  obtain ⟨p, len, cap, hv, hl, hm, hall⟩ := h.slice ht (by omega)
  have : ∀ i, i < len → ∃ x : UInt8, ∃ b off, p = some ⟨b, off, none⟩ ∧ b < w.heap.size ∧ w.cell? ⟨b, off + i, none⟩ = some (.int .u8 x.toNat) := by
    intro i hi
    obtain ⟨b, off, cs', hp, hb, hlen, hcell, hrc⟩ := hall i hi
    obtain ⟨x, rfl, hx⟩ := hrc.int Tryz.underlying5
    have hr : 0 ≤ x ∧ x ≤ 255 := by simpa [Lit.wf, IntKind.min, IntKind.max, IntKind.bits, IntKind.signed] using hx
    refine ⟨UInt8.ofNat x.toNat, b, off, hp, hb, ?_⟩
    have := hcell 0 (by simp)
    rw [show ((UInt8.ofNat x.toNat).toNat : Int) = x by simp; omega]
    simpa [hc] using this
  obtain ⟨l, hlen, hP⟩ := choose_list this
  refine ⟨p, len, cap, l, hv, hl, hm, hlen, ⟨p, cap, by rw [bys_length, hlen], fun i hi => ?_⟩⟩
  rw [bys_length] at hi
  obtain ⟨b, off, hp, hb, hcell⟩ := hP i hi
  refine ⟨b, off, hp, hb, hb, ?_⟩
  rw [hcell, bys_getD _ _ hi]
  simp [hi]
theorem Rc.bools {w : World} {cs : List Value} (h : Rc w 43 cs) : ∃ (p : Option Addr) (len cap : Nat) (l : List Bool), cs = [.slice p len cap] ∧ len ≤ maxLen ∧ l.length = len ∧ IsRow (· < w.heap.size) w (.slice p len cap) (l.map Value.bool) := by
  have hc : Tryz.prog.cellsOf 4 = 1 := by kernel_rfl
  obtain ⟨p, len, cap, hv, hl, hm, hall⟩ := h.slice Tryz.underlying43 (by omega)
  have : ∀ i, i < len → ∃ x : Bool, ∃ b off, p = some ⟨b, off, none⟩ ∧ b < w.heap.size ∧ w.cell? ⟨b, off + i, none⟩ = some (.bool x) := by
    intro i hi
    obtain ⟨b, off, cs', hp, hb, hlen, hcell, hrc⟩ := hall i hi
    obtain ⟨x, rfl⟩ := hrc.bool Tryz.underlying4
    refine ⟨x, b, off, hp, hb, ?_⟩
    have := hcell 0 (by simp)
    simpa [hc] using this
  obtain ⟨l, hlen, hP⟩ := choose_list this
  refine ⟨p, len, cap, l, hv, by omega, hlen, ⟨p, cap, by simp [hlen], fun i hi => ?_⟩⟩
  simp at hi
  obtain ⟨b, off, hp, hb, hcell⟩ := hP i hi
  exact ⟨b, off, hp, hb, hb, by rw [hcell]; simp [hi]⟩
end Go.Proofs.YtdfahddpkkeldaaGreat

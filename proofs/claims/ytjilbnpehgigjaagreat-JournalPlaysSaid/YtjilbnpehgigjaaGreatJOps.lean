/- Package journal: a journal over its disk; what Append and Compact do. -/
import Derived.Test.YtjilbnpehgigjaaGreatJLaysB
import Derived.Test.YtjilbnpehgigjaaGreatJournalD
namespace Go.Proofs.YtjilbnpehgigjaaGreat
open Go.RowKit
def JS.appends (s : JS) (d : DS) (b : List UInt8) : JS × DS × Int :=
  if (s.down || d.down) = true then ({ s with down := true }, d, 13) else
  if 60000 < b.length then (s, d, 3) else
  if d.lasts.length / 2 < s.at_ + sectorsF b.length then (s, d, 12) else
  if (d.lays (s.half * (d.lasts.length / 2) + s.at_) (putF 2 s.gen (s.recs.length + 1) b) (sectorsF b.length)).2 = true then
    ({ s with recs := s.recs ++ [b], at_ := s.at_ + sectorsF b.length }, (d.lays (s.half * (d.lasts.length / 2) + s.at_) (putF 2 s.gen (s.recs.length + 1) b) (sectorsF b.length)).1, 0)
  else ({ s with down := true }, (d.lays (s.half * (d.lasts.length / 2) + s.at_) (putF 2 s.gen (s.recs.length + 1) b) (sectorsF b.length)).1, 13)
def JS.compacts (s : JS) (d : DS) (b : List UInt8) : JS × DS × Int :=
  if (s.down || d.down) = true then ({ s with down := true }, d, 13) else
  if 60000 < b.length then (s, d, 3) else
  if d.lasts.length / 2 < sectorsF b.length ∨ s.gen = 4294967295 then (s, d, 12) else
  if (d.lays ((1 - s.half) * (d.lasts.length / 2)) (putF 1 (if s.gen < 4294967295 then s.gen + 1 else 4294967295) 0 b) (sectorsF b.length)).2 = true then
    ({ s with half := 1 - s.half, gen := s.gen + 1, has := true, pict := b, recs := [], at_ := sectorsF b.length }, (d.lays ((1 - s.half) * (d.lasts.length / 2)) (putF 1 (if s.gen < 4294967295 then s.gen + 1 else 4294967295) 0 b) (sectorsF b.length)).1, 0)
  else ({ s with down := true }, (d.lays ((1 - s.half) * (d.lasts.length / 2)) (putF 1 (if s.gen < 4294967295 then s.gen + 1 else 4294967295) 0 b) (sectorsF b.length)).1, 13)
/-- what a journal's numbers keep to; N: a half's sectors -/
def JS.Lim (s : JS) (N : Nat) : Prop := s.half ≤ 1 ∧ s.gen ≤ 4294967295 ∧ s.recs.length ≤ s.at_ ∧ s.at_ ≤ N
/-- a journal over its disk, and the table: all of their blocks are in F; they share none -/
structure IsJD (F : Nat → Prop) (w : World) (jb tb db bl bm : Nat) (s : JS) (d : DS) : Prop where
  tab : IsTab w tb
  ex : ∃ S C, IsJ S w jb tb db s ∧ IsDisk w db bl bm C d ∧ (∀ k, S k → ¬ foot db bl bm C k) ∧ ∀ k, (S k ∨ foot db bl bm C k) → F k ∧ k ≠ tb ∧ k < w.heap.size
theorem IsJD.mod {F T : Nat → Prop} {w w' : World} {jb tb db bl bm : Nat} {s : JS} {d : DS} (h : IsJD F w jb tb db bl bm s d) (m : Mod T w w') (hs : ∀ k, k < w.heap.size → (F k ∨ k = tb) → ¬ T k) : IsJD F w' jb tb db bl bm s d := by
  obtain ⟨S, C, h1, h2, h3, h4⟩ := h.ex
  exact ⟨h.tab.mod m (hs tb h.tab.lt (.inr rfl)), S, C, h1.mod m (fun k hk h => hs k hk (.inl (h4 k (.inl h)).1)), h2.mod m (fun k hk h => hs k hk (.inl (h4 k (.inr h)).1)), h3, fun k h => ⟨(h4 k h).1, (h4 k h).2.1, Nat.lt_of_lt_of_le (h4 k h).2.2 m.size⟩⟩
theorem IsJD.modNil {F : Nat → Prop} {w w' : World} {jb tb db bl bm : Nat} {s : JS} {d : DS} (h : IsJD F w jb tb db bl bm s d) (m : Mod nil w w') : IsJD F w' jb tb db bl bm s d := h.mod m (fun _ _ _ f => f)
theorem IsJD.mono {F G : Nat → Prop} {w : World} {jb tb db bl bm : Nat} {s : JS} {d : DS} (h : IsJD F w jb tb db bl bm s d) (hs : ∀ k, k < w.heap.size → F k → G k) : IsJD G w jb tb db bl bm s d := by
  obtain ⟨S, C, h1, h2, h3, h4⟩ := h.ex
  exact ⟨h.tab, S, C, h1, h2, h3, fun k h => ⟨hs k (h4 k h).2.2 (h4 k h).1, (h4 k h).2⟩⟩
theorem IsJ.here {S : Nat → Prop} {w : World} {jb tb db : Nat} {s : JS} (h : IsJ S w jb tb db s) : IsJ (fun k => S k ∧ k < w.heap.size) w jb tb db s := h.mono (fun _ hk h => ⟨h, hk⟩)
/-- packing: blocks of the journal and of the disk as they are known behind a call -/
theorem IsJD.pack {F S0 C0 S C : Nat → Prop} {w0 w : World} {jb tb db bl bm : Nat} {s : JS} {d : DS} (B : Nat) (hj : IsJ S w jb tb db s) (hd : IsDisk w db bl bm C d) (ht : IsTab w tb) (hB : w0.heap.size ≤ B)
    (h3 : ∀ k, S0 k → ¬ foot db bl bm C0 k) (h4 : ∀ k, (S0 k ∨ foot db bl bm C0 k) → F k ∧ k ≠ tb ∧ k < w0.heap.size) (ht0 : tb < w0.heap.size) (hw : w0.heap.size ≤ w.heap.size)
    (hS : ∀ k, k < w.heap.size → S k → S0 k ∨ B ≤ k) (hC : ∀ k, k < w.heap.size → C k → C0 k ∨ (w0.heap.size ≤ k ∧ k < B)) : IsJD (fun k => F k ∨ w0.heap.size ≤ k) w jb tb db bl bm s d := by
  have hf : ∀ k, (k = db ∨ k = bl ∨ k = bm) → F k ∧ k ≠ tb ∧ k < w0.heap.size := fun k h => h4 k (.inr (by rcases h with h | h | h; exact .inl h; exact .inr (.inl h); exact .inr (.inr (.inl h))))
  have hc3 : ∀ k, foot db bl bm (fun k => C k ∧ k < w.heap.size) k → foot db bl bm C0 k ∨ (w0.heap.size ≤ k ∧ k < B ∧ k < w.heap.size) := fun k h => by
    rcases h with h | h | h | h
    · exact .inl (.inl h)
    · exact .inl (.inr (.inl h))
    · exact .inl (.inr (.inr (.inl h)))
    · rcases hC k h.2 h.1 with h' | h'
      · exact .inl (.inr (.inr (.inr h')))
      · exact .inr ⟨h'.1, h'.2, h.2⟩
  refine ⟨ht, _, _, hj.here, hd.here, fun k hk hc => ?_, fun k h => ?_⟩
  · rcases hS k hk.2 hk.1 with h | h
    · rcases hc3 k hc with h' | h'
      · exact h3 k h h'
      · have := (h4 k (.inl h)).2.2; omega
    · rcases hc3 k hc with h' | h'
      · have := (h4 k (.inr h')).2.2; omega
      · omega
  · rcases h with h | h
    · rcases hS k h.2 h.1 with h' | h'
      · have h5 := h4 k (.inl h'); exact ⟨.inl h5.1, h5.2.1, by omega⟩
      · exact ⟨.inr (by omega), by omega, h.2⟩
    · rcases hc3 k h with h' | h'
      · have h5 := h4 k (.inr h'); exact ⟨.inl h5.1, h5.2.1, by omega⟩
      · exact ⟨.inr h'.1, by omega, h'.2.2⟩
end Go.Proofs.YtjilbnpehgigjaaGreat

/- Frames as sectors: plain lists of bytes. -/
import Derived.Test.YtlkphkkjpjlnhaaFrame
import Derived.Laws.CopyOwn
import Derived.Laws.Tables
namespace Go.Proofs.Ytlkphkkjpjlnhaa
open Go.RowKit
/-- so many bytes, filled up with zeros -/
def fillTo (n : Nat) (l : List UInt8) : List UInt8 := l ++ List.replicate (n - l.length) 0
theorem fillTo_length (n : Nat) (l : List UInt8) (h : l.length ≤ n) : (fillTo n l).length = n := by simp [fillTo]; omega
/-- the sector number i of a text, whatever its number, marked with 2 -/
def sect2 (t : List UInt8) (i : Nat) : List UInt8 := 2 :: fillTo 63 ((t.drop (63 * i)).take 63)
theorem sect2_length (t : List UInt8) (i : Nat) : (sect2 t i).length = 64 := by
  simp only [sect2, List.length_cons]
  rw [fillTo_length _ _ (by simp; omega)]
/-- the first so many sectors -/
def sectsTo (t : List UInt8) : Nat → List UInt8
  | 0 => []
  | j + 1 => sectsTo t j ++ sect2 t j
theorem sectsTo_length (t : List UInt8) (j : Nat) : (sectsTo t j).length = 64 * j := by
  induction j with
  | zero => rfl
  | succ j ih => rw [sectsTo, List.length_append, ih, sect2_length]; omega
/-- what Put lays -/
def putF (kind gen seq : Nat) (body : List UInt8) : List UInt8 := (sectsTo (textF kind gen seq body) (sectorsF body.length)).set 0 1
theorem putF_length (kind gen seq : Nat) (body : List UInt8) : (putF kind gen seq body).length = 64 * sectorsF body.length := by rw [putF, List.length_set, sectsTo_length]
/-- what lies in memory behind j rounds -/
def outAt (t : List UInt8) (S j : Nat) : List UInt8 := sectsTo t j ++ List.replicate (64 * (S - j)) 0
theorem outAt_length (t : List UInt8) (S j : Nat) (h : j ≤ S) : (outAt t S j).length = 64 * S := by rw [outAt, List.length_append, sectsTo_length, List.length_replicate]; omega
theorem outAt_zero (t : List UInt8) (S : Nat) : outAt t S 0 = List.replicate (64 * S) 0 := rfl
theorem outAt_last (t : List UInt8) (S : Nat) : outAt t S S = sectsTo t S := by simp [outAt]
theorem outAt_succ (t : List UInt8) (S j : Nat) (h : j < S) : splice ((outAt t S j).set (64 * j) 2) (64 * j + 1) ((t.drop (63 * j)).take 63) = outAt t S (j + 1) := by
  have hP := sectsTo_length t j
  obtain ⟨P, hPe⟩ : ∃ P, sectsTo t j = P := ⟨_, rfl⟩
  obtain ⟨C, hC⟩ : ∃ C, (t.drop (63 * j)).take 63 = C := ⟨_, rfl⟩
  have hCl : C.length ≤ 63 := by rw [← hC, List.length_take]; omega
  have e : outAt t S (j + 1) = P ++ (2 :: (C ++ List.replicate (63 - C.length) 0)) ++ List.replicate (64 * (S - (j + 1))) 0 := by
    rw [outAt, sectsTo, hPe, sect2, hC]; rfl
  rw [e, hC, outAt, hPe]
  rw [hPe] at hP
  clear e hC hPe
  obtain ⟨m, hm⟩ : ∃ m, 64 * (S - j) = m + 64 := ⟨64 * (S - j) - 64, by omega⟩
  have hm2 : 64 * (S - (j + 1)) = m := by omega
  rw [hm, hm2]
  have h1 : (P ++ List.replicate (m + 64) (0 : UInt8)).set (64 * j) 2 = P ++ 2 :: List.replicate (m + 63) 0 := by
    rw [← hP, List.set_append_right _ _ (Nat.le_refl _), Nat.sub_self]; rfl
  rw [h1]
  unfold splice
  have h2 : (P ++ 2 :: List.replicate (m + 63) (0 : UInt8)).take (64 * j + 1) = P ++ [2] := by
    rw [← hP, List.take_length_add_append]; rfl
  have h3 : (P ++ 2 :: List.replicate (m + 63) (0 : UInt8)).drop (64 * j + 1 + C.length) = List.replicate (63 - C.length + m) 0 := by
    rw [← hP, Nat.add_assoc, List.drop_length_add_append, Nat.add_comm 1 C.length, List.drop_succ_cons, List.drop_replicate]
    congr 1
    omega
  rw [h2, h3, ← List.replicate_append_replicate]
  simp
theorem bys_set (l : List UInt8) (i : Nat) (b : UInt8) : (bys l).set i (.int .u8 b.toNat) = bys (l.set i b) := by simp [bys, List.map_set]
theorem bys_splice (l c : List UInt8) (o : Nat) : splice (bys l) o (bys c) = bys (splice l o c) := by simp [splice, bys, List.map_take, List.map_drop]
theorem bys_replicate (n : Nat) : bys (List.replicate n 0) = List.replicate n (.int .u8 0) := by simp [bys]
theorem Mod.rowSet {S : Nat → Prop} {a w : World} (h : Mod S a w) (g : Nat) (cs : Array Value) (hg : g < a.heap.size → S g) : Mod S a (w.setRow g cs) :=
  ⟨h.os, h.tape, h.output, by simpa [World.setRow] using h.size, fun k hk hs => (setRow_other w g k cs (fun e => hs (e ▸ hg (e ▸ hk)))).trans (h.block k hk hs)⟩
theorem Mod.ofBelowAt {B : Nat} {w w' : World} (h : Below B w w') : Mod (fun k => B ≤ k) w w' := ⟨h.os, h.tape, h.output, h.size, fun k _ hk => h.block k (by omega)⟩
end Go.Proofs.Ytlkphkkjpjlnhaa

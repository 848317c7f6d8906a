/- The document's hash (cflref1.Hash): the same law. -/
import Derived.Test.YtlkhihdgaimboaaShaOne
import Derived.Deep.QuietTactic
import Derived.BigQuiet
namespace Go.Proofs.Ytlkhihdgaimboaa
open Go.RowKit

theorem refTurn (x : BitVec 32) (n : Int) (h0 : 0 < n) (h1 : n < 32) (w : World) : Calls Try.prog 49 #[.int .u32 (u x), .int .u64 n] w fun e w' => e = .returned (.int .u32 (u (ror x n.toNat))) ∧ w = w' := by
  obtain ⟨k, rfl⟩ : ∃ k : Nat, n = k := ⟨n.toNat, by omega⟩
  obtain ⟨m, hm⟩ : ∃ m : Nat, 32 - k = m := ⟨_, rfl⟩
  have e1 : (32 - (k : Int)) % 18446744073709551616 = (m : Int) := by omega
  have e2 : IntKind.u64.wrap (32 - (k : Int)) = (m : Int) := by rw [IntKind.wrap_u64]; exact e1
  have e3 : u x / 2 ^ k = u (x >>> k) := by have := u_shr x k; rw [← this]; push_cast; rfl
  have e4 : u x * 2 ^ m % 4294967296 = u (x <<< m) := by have := u_shl x m; rw [← this]; push_cast; rfl
  have e4' : IntKind.u32.wrap (u x * 2 ^ m) = u (x <<< m) := by rw [IntKind.wrap_u32]; exact e4
  have e5 := u_or (x >>> k) (x <<< m)
  have e6 : x >>> k ||| x <<< m = ror x k := by rw [ror, hm, BitVec.or_comm]
  rw [e6] at e5
  have hk : ¬ (32 : Int) < (k : Int) := by omega
  have hmm : (m : Int) ≤ 32 := by omega
  have hk' : (k : Int) ≤ 32 := by omega
  have h1 := u_lo x
  have h2 := u_hi x
  rw [Int.toNat_natCast]
  clear hm e6
  go_enter Try.func49, Try.ntmps49
  go_wp2_with fail
  go_ret
  exact ⟨rfl, rfl⟩
theorem kTab_lit : (wc kTab).toArray = #[.int .u32 1116352408, .int .u32 1899447441, .int .u32 3049323471, .int .u32 3921009573, .int .u32 961987163, .int .u32 1508970993, .int .u32 2453635748, .int .u32 2870763221, .int .u32 3624381080, .int .u32 310598401, .int .u32 607225278, .int .u32 1426881987, .int .u32 1925078388, .int .u32 2162078206, .int .u32 2614888103, .int .u32 3248222580, .int .u32 3835390401, .int .u32 4022224774, .int .u32 264347078, .int .u32 604807628, .int .u32 770255983, .int .u32 1249150122, .int .u32 1555081692, .int .u32 1996064986, .int .u32 2554220882, .int .u32 2821834349, .int .u32 2952996808, .int .u32 3210313671, .int .u32 3336571891, .int .u32 3584528711, .int .u32 113926993, .int .u32 338241895, .int .u32 666307205, .int .u32 773529912, .int .u32 1294757372, .int .u32 1396182291, .int .u32 1695183700, .int .u32 1986661051, .int .u32 2177026350, .int .u32 2456956037, .int .u32 2730485921, .int .u32 2820302411, .int .u32 3259730800, .int .u32 3345764771, .int .u32 3516065817, .int .u32 3600352804, .int .u32 4094571909, .int .u32 275423344, .int .u32 430227734, .int .u32 506948616, .int .u32 659060556, .int .u32 883997877, .int .u32 958139571, .int .u32 1322822218, .int .u32 1537002063, .int .u32 1747873779, .int .u32 1955562222, .int .u32 2024104815, .int .u32 2227730452, .int .u32 2361852424, .int .u32 2428436474, .int .u32 2756734187, .int .u32 3204031479, .int .u32 3329325298] := by kernel_rfl
theorem hTab_lit : (wc hTab).toArray = #[.int .u32 1779033703, .int .u32 3144134277, .int .u32 1013904242, .int .u32 2773480762, .int .u32 1359893119, .int .u32 2600822924, .int .u32 528734635, .int .u32 1541459225] := by kernel_rfl
theorem info_a8 : (Try.prog.info? 75).map (·.size) = some 8 := by kernel_rfl
theorem info_a64 : (Try.prog.info? 74).map (·.size) = some 64 := by kernel_rfl
set_option maxRecDepth 100000 in
theorem refStarts (w : World) : Calls Try.prog 40 #[] w fun e w' => e = .returned (.agg (wc hTab).toArray) ∧ Mod nil w w' := by
  rw [hTab_lit]
  go_enter Try.func40, Try.ntmps40
  go_wp2_with fail
  refine bodyPost_ret (results_cell_row rfl _ _ w.heap.size 75 _ (0, 0) _ rfl (heap_alloc_new w _) Try.underlying75 rfl info_a8) rfl ?_
  exact ⟨rfl, (Mod.refl _ _).alloc _⟩
set_option maxRecDepth 100000 in
theorem refWords (w : World) : Calls Try.prog 39 #[] w fun e w' => e = .returned (.agg (wc kTab).toArray) ∧ Mod nil w w' := by
  obtain ⟨cs, hcs⟩ : ∃ cs, (wc kTab).toArray = cs := ⟨_, rfl⟩
  have hsize : 64 = cs.size := by rw [← hcs, List.size_toArray, wc_length, kTab_length]
  have hone : cs.all (·.oneCell') = true := by rw [← hcs]; kernel_rfl
  have HCS := Lib.hid hcs
  rw [hcs]
  go_enter Try.func39, Try.ntmps39
  go_upto_region 1 with (fail)
  obtain ⟨g, hg⟩ : ∃ g, w.heap.size = g := ⟨_, rfl⟩
  generalize hw1 : w.alloc _ = w1
  have HG1 : Hid (w1.heap[g]? = some (.cells (List.replicate 64 (Value.int .u32 0)).toArray 74 (0, 0))) := Lib.hid (by rw [← hw1, ← hg, heap_alloc_new]; rfl)
  have hm1 : Mod nil w (w1.setRow g cs) := by
    have h2 : Mod nil w w1 := by rw [← hw1]; exact (Mod.refl _ _).alloc _
    exact ⟨h2.os, h2.tape, h2.output, by simpa [World.setRow] using h2.size, fun k hk _ => (setRow_other w1 g k cs (by omega)).trans (h2.block k hk (not_nil _))⟩
  have HM1 := Lib.hid hm1
  rw [hg]
  clear hw1 hm1 hcs hg
  go_wp2_with (first
    | (refine wpList_build rfl _ _ rfl (by kernel_rfl) ?_)
    | (refine wpList_store_row rfl _ _ _ rfl g cs rfl (by rw [← HCS.out]; kernel_rfl) 74 _ HG1.out (by rw [info_a64, hsize]) (by simp [← hsize]) hone ?_))
  refine bodyPost_ret (results_cell_row rfl _ _ g 74 cs (0, 0) _ rfl (setRow_heap w1 g _ cs _ _ HG1.out) Try.underlying74 rfl (by rw [info_a64, hsize])) rfl ?_
  exact ⟨rfl, HM1.out⟩
end Go.Proofs.Ytlkhihdgaimboaa
